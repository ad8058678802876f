/- Part 1 of the proof of a law; no condition. The last part has the theorem. -/
import Derived.Calls
import Derived.Orders
import Derived.WalkKit
import Derived.Laws.AppendOwn
import Derived.Laws.OwnMore
import Derived.Laws.MakeOwn
import Derived.LoopN
import Derived.Laws.Cells
import Derived.Laws.IdiomCopy
import Derived.Laws.Tables
import Derived.Laws.Slices
import Derived.Laws.Strings
import Derived.Great.BuildSlice
import Derived.Laws.CopyRow
import Derived.Great.FillDense
import Derived.Laws.Cover3

/- The abstract machine, part 1: values and memory by numbers that are no addresses (a number stands for a block, wherever that lies), and what it means that a world is as the abstract memory says. -/
set_option linter.unusedVariables false
set_option linter.unusedSimpArgs false
namespace Go.Proofs.Ytefmjpbmdoebaaa
open Go Go.RowKit

/-- A row of cells: its elements' type, how many cells an element has, the cells. -/
structure Ob where
  e : Nat
  sz : Nat
  cs : List Value

/-- The abstract memory. Numbers from 'nxt' on are free. A row that is 'own' may be written and appended to. Rows that came of one another by appending share their 'root'. -/
structure Hp where
  get : Nat → Option Ob
  own : Nat → Bool
  root : Nat → Nat
  nxt : Nat
  wf : ∀ i, nxt ≤ i → get i = none
  rt : ∀ i, i < nxt → root i ≤ i
  ou : ∀ i j, i < nxt → j < nxt → own i = true → own j = true → root i = root j → i = j

/-- A value of which nothing is known. -/
def junk : Value := .chan (some 0)

/-- The address of an empty slice of which no more is known. -/
def void : Addr := ⟨0, 0, some 0⟩

/-- Where a number's block lies; of one that may be written: how many cells it has, and how many an element has. -/
abbrev Bm := Nat → Option (Nat × Option (Nat × Nat))

inductive VR (β : Bm) : Value → Value → Prop
  | any (v : Value) : VR β junk v
  | bool (b : Bool) : VR β (.bool b) (.bool b)
  | int (k : IntKind) (n : Int) : VR β (.int k n) (.int k n)
  | string (s : ByteArray) : VR β (.string s) (.string s)
  | nilptr : VR β (.pointer none) (.pointer none)
  | nilslice : VR β (.slice none 0 0) (.slice none 0 0)
  | nilmap : VR β (.map none) (.map none)
  | nilfunc : VR β .nilFunc .nilFunc
  | niliface : VR β .nilIface .nilIface
  | map {id b : Nat} {k : Option (Nat × Nat)} (hb : β id = some (b, k)) : VR β (.map (some id)) (.map (some b))
  | slice {id off off' b : Nat} {k : Option (Nat × Nat)} {len c : Nat} (hb : β id = some (b, k)) (ho : off' = off ∨ (len = 0 ∧ off ≠ 0)) (hl : len ≤ c) (hm : c ≤ maxLen) (hk : ∀ K sz, k = some (K, sz) → off' + c * sz ≤ K) :
      VR β (.slice (some ⟨id, off, none⟩) len len) (.slice (some ⟨b, off', none⟩) len c)
  | emp (a : Addr) (c : Nat) (hm : c ≤ maxLen) : VR β (.slice (some void) 0 0) (.slice (some a) 0 c)
  | ptr {id off b : Nat} {k : Option (Nat × Nat)} (hb : β id = some (b, k)) : VR β (.pointer (some ⟨id, off, none⟩)) (.pointer (some ⟨b, off, none⟩))
  | agg {xs ys : Array Value} (hs : xs.size = ys.size) (h : ∀ i, i < xs.size → VR β (xs.getD i junk) (ys.getD i junk)) : VR β (.agg xs) (.agg ys)
  | tuple {xs ys : Array Value} (hs : xs.size = ys.size) (h : ∀ i, i < xs.size → VR β (xs.getD i junk) (ys.getD i junk)) : VR β (.tuple xs) (.tuple ys)
  | func (f : Fn) {xs ys cs ds : Array Value} (hs : xs.size = ys.size) (h : ∀ i, i < xs.size → VR β (xs.getD i junk) (ys.getD i junk))
      (hc : cs.size = ds.size) (h' : ∀ i, i < cs.size → VR β (cs.getD i junk) (ds.getD i junk)) : VR β (.func f xs cs) (.func f ys ds)

theorem VR.mono {β β' : Bm} (h : ∀ id p, β id = some p → β' id = some p) {v u : Value} (hv : VR β v u) : VR β' v u := by
  induction hv with
  | any v => exact .any v
  | bool b => exact .bool b
  | int k n => exact .int k n
  | string s => exact .string s
  | nilptr => exact .nilptr
  | nilslice => exact .nilslice
  | nilmap => exact .nilmap
  | nilfunc => exact .nilfunc
  | niliface => exact .niliface
  | map hb => exact .map (h _ _ hb)
  | slice hb ho hl hm hk => exact .slice (h _ _ hb) ho hl hm hk
  | emp a c hm => exact .emp a c hm
  | ptr hb => exact .ptr (h _ _ hb)
  | agg hs _ ih => exact .agg hs ih
  | tuple hs _ ih => exact .tuple hs ih
  | func f hs _ hc _ ih ih' => exact .func f hs ih hc ih'

theorem VR.undef {β : Bm} : VR β Go.undef Go.undef := .tuple rfl (fun i hi => by simp at hi)

/-- Values that stand for themselves. -/
def Value.still : Value → Bool
  | .bool _ | .int _ _ | .string _ | .pointer none | .slice none 0 0 | .map none | .nilFunc | .nilIface => true
  | .tuple xs => xs.size == 0
  | .func _ xs cs => xs.size == 0 && cs.size == 0
  | _ => false

theorem VR.still {β : Bm} {v : Value} (h : Value.still v = true) : VR β v v := by
  unfold Value.still at h
  split at h
  · exact .bool _
  · exact .int _ _
  · exact .string _
  · exact .nilptr
  · exact .nilslice
  · exact .nilmap
  · exact .nilfunc
  · exact .niliface
  · rename_i xs
    have h0 : xs.size = 0 := by simpa using h
    exact .tuple rfl (fun i hi => by omega)
  · rename_i f xs cs
    simp only [Bool.and_eq_true, beq_iff_eq] at h
    exact .func f rfl (fun i hi => by omega) rfl (fun i hi => by omega)
  · cases h

theorem VR.still_eq {β : Bm} {v u : Value} (h : Value.still v = true) (hv : VR β v u) : u = v := by
  cases hv with
  | any v => cases h
  | bool b => rfl
  | int k n => rfl
  | string s => rfl
  | nilptr => rfl
  | nilslice => rfl
  | nilmap => rfl
  | nilfunc => rfl
  | niliface => rfl
  | map hb => cases h
  | slice hb ho hl hm hk => cases h
  | emp a c hm => cases h
  | ptr hb => cases h
  | agg hs _ => cases h
  | tuple hs _ =>
    rename_i xs ys _
    have h0 : xs.size = 0 := by simpa [Value.still] using h
    have h1 : xs = #[] := Array.eq_empty_of_size_eq_zero h0
    have h2 : ys = #[] := Array.eq_empty_of_size_eq_zero (by omega)
    rw [h1, h2]
  | func f hs _ hc _ =>
    rename_i xs ys cs ds _ _
    simp only [Value.still, Bool.and_eq_true, beq_iff_eq] at h
    have h1 : xs = #[] := Array.eq_empty_of_size_eq_zero h.1
    have h2 : ys = #[] := Array.eq_empty_of_size_eq_zero (by omega)
    have h3 : cs = #[] := Array.eq_empty_of_size_eq_zero h.2
    have h4 : ds = #[] := Array.eq_empty_of_size_eq_zero (by omega)
    rw [h1, h2, h3, h4]

/-- A value of one cell, of which something is known. -/
def Value.one : Value → Bool
  | .agg _ | .tuple _ | .chan _ => false
  | _ => true

theorem VR.one {β : Bm} {v u : Value} (h : Value.one v = true) (hv : VR β v u) : u.oneCell' = true := by
  cases hv <;> first | rfl | (simp [Value.one] at h; done) | (cases h; done)

/-- A number for a list of numbers. -/
def mcode : List Int → Nat
  | [] => 0
  | x :: t => 2 ^ (if 0 ≤ x then 2 * x.toNat else 2 * (-x).toNat + 1) * (2 * mcode t + 1)
/-- The row that stands for a map: its keys, in the order in which they came. -/
def mapOb (l : List Int) : Ob := ⟨1 + mcode l, 0, []⟩
/-- The map's entries: the keys, each with the value true. -/
def MapIs (es : Array MapEntry) (l : List Int) : Prop := es.toList.map (fun e => (e.key, e.val)) = l.map fun x => (Value.int .i64 x, Value.bool true)

/-- The world is, at the numbers that β places, as the abstract memory says. What may be written lies from block B on. -/
structure HR (B : Nat) (β : Bm) (H : Hp) (w : World) : Prop where
  dom : ∀ id, H.nxt ≤ id → β id = none
  blk : ∀ id b k, β id = some (b, k) → b < w.heap.size
  cell : ∀ id ob b k, H.get id = some ob → β id = some (b, k) → ∀ i v, ob.cs[i]? = some v → ∃ u, w.cell? ⟨b, i, none⟩ = some u ∧ VR β v u
  siz : ∀ id ob b K s, H.get id = some ob → β id = some (b, some (K, s)) → s = ob.sz ∧ 0 < s
  own : ∀ id ob b k, H.get id = some ob → β id = some (b, k) → H.own id = true → B ≤ b ∧ ∃ K cur, k = some (K, ob.sz) ∧ w.heap[b]? = some (.cells cur ob.e (0, 0)) ∧ K ≤ cur.size ∧ ob.cs.length ≤ K
  inj : ∀ id id' ob ob' b k k', H.get id = some ob → H.get id' = some ob' → β id = some (b, k) → β id' = some (b, k') → H.own id = true → id' = id ∨ (H.root id' = H.root id ∧ ob'.cs.length ≤ ob.cs.length ∧ H.own id' = false)
  base : B ≤ w.heap.size
  mp : ∀ id b k l, H.get id = some (mapOb l) → β id = some (b, k) → B ≤ b ∧ ∃ es clock, w.heap[b]? = some (.map es clock) ∧ MapIs es l
  mpi : ∀ id id' b k k' l l', H.get id = some (mapOb l) → H.get id' = some (mapOb l') → β id = some (b, k) → β id' = some (b, k') → id' = id

/-- What a step leaves alone. -/
structure Fr (B : Nat) (β : Bm) (H : Hp) (w : World) (β' : Bm) (H' : Hp) (w' : World) : Prop where
  old : ∀ id, id < H.nxt → β' id = β id
  below : Below B w w'
  nxt : H.nxt ≤ H'.nxt

theorem HR.lt {B : Nat} {β : Bm} {H : Hp} {w : World} (h : HR B β H w) {id : Nat} {p} (hp : β id = some p) : id < H.nxt := by
  rcases Nat.lt_or_ge id H.nxt with h1 | h1
  · exact h1
  · rw [h.dom id h1] at hp; cases hp

theorem Fr.ext {B : Nat} {β β' : Bm} {H H' : Hp} {w w' : World} (h : Fr B β H w β' H' w') (hr : HR B β H w) : ∀ id p, β id = some p → β' id = some p :=
  fun id p hp => (h.old id (hr.lt hp)).trans hp

theorem Fr.refl {B : Nat} {β : Bm} {H : Hp} {w : World} (h : HR B β H w) : Fr B β H w β H w :=
  ⟨fun _ _ => rfl, Below.refl _ _, Nat.le_refl _⟩

theorem Fr.trans {B : Nat} {β β1 β2 : Bm} {H H1 H2 : Hp} {w w1 w2 : World} (h : Fr B β H w β1 H1 w1) (k : Fr B β1 H1 w1 β2 H2 w2) : Fr B β H w β2 H2 w2 :=
  ⟨fun id hi => (k.old id (Nat.lt_of_lt_of_le hi h.nxt)).trans (h.old id hi), h.below.trans k.below, Nat.le_trans h.nxt k.nxt⟩

end Go.Proofs.Ytefmjpbmdoebaaa

/- The abstract machine, part 2: what a piece of code does to the abstract state, said of every world that is as the abstract memory says; the rules of control. -/
set_option linter.unusedVariables false
set_option linter.unusedSimpArgs false
namespace Go.Proofs.Ytefmjpbmdoebaaa
open Go Go.RowKit

/-- The abstract state: how many slots, the slots, the memory. -/
structure St where
  n : Nat
  T : Nat → Value
  H : Hp

def St.rho (S : St) : Operand → Value
  | .tmp t => S.T t
  | .const v => if Value.still v then v else junk
  | .global _ => junk
  | .func f => .func (.func f) #[] #[]

def St.put (S : St) (d : Option Nat) (v : Value) : St :=
  match d with
  | some d => { S with T := fun j => if j = d then v else S.T j }
  | none => S

def St.heap (S : St) (H : Hp) : St := { S with H := H }

/-- The slots of the frame are as the abstract ones. -/
def TR (β : Bm) (S : St) (a : Act) : Prop := a.tmps.size = S.n ∧ ∀ i, i < S.n → VR β (S.T i) (a.tmps.getD i undef)

theorem TR.mono {β β' : Bm} (h : ∀ id p, β id = some p → β' id = some p) {S : St} {a : Act} (ht : TR β S a) : TR β' S a := ⟨ht.1, fun i hi => (ht.2 i hi).mono h⟩
theorem TR.heap {β : Bm} {S : St} {a : Act} (H : Hp) (ht : TR β S a) : TR β (S.heap H) a := ht

theorem TR.put {β : Bm} {S : St} {a : Act} (ht : TR β S a) {d : Option Nat} {v u : Value} (hv : VR β v u) : TR β (S.put d v) (a.put d u) := by
  cases d with
  | none => exact ht
  | some d =>
    refine ⟨by simp [Act.put, St.put, ht.1], fun i hi => ?_⟩
    show VR β (if i = d then v else S.T i) ((a.tmps.setIfInBounds d u).getD i undef)
    have hi' : i < a.tmps.size := by rw [ht.1]; exact hi
    by_cases e : i = d
    · subst e
      rw [if_pos rfl]
      simpa [Array.getD_eq_getD_getElem?, hi'] using hv
    · rw [if_neg e]
      have := ht.2 i hi
      simpa [Array.getD_eq_getD_getElem?, Array.getElem?_setIfInBounds_ne (Ne.symm e)] using this

def opndOK (n : Nat) : Operand → Bool
  | .tmp t => t < n
  | _ => true

theorem TR.eval {β : Bm} {S : St} {a : Act} (ht : TR β S a) {x : Operand} (hx : opndOK S.n x = true) : VR β (S.rho x) (a.eval x) := by
  cases x with
  | tmp t => exact ht.2 t (by simpa [opndOK] using hx)
  | const v =>
    show VR β (if Value.still v then v else junk) v
    split
    · exact VR.still (by assumption)
    · exact .any v
  | global g => exact .any _
  | func f => exact VR.still (by rfl)

/-- What an operation comes to: value r, memory H'. -/
def aev (P : Program) (o : Oper) (ρ : Operand → Value) (H : Hp) (r : Value) (H' : Hp) : Prop :=
  ∀ (B : Nat) (β : Bm) (a : Act) (w : World), (∀ x ∈ o.op.operands, VR β (ρ x) (a.eval x)) → HR B β H w →
    ∀ (next : Act → World → Prop) (Q : Exit → Act → World → Prop),
      (∀ β' u w', VR β' r u → HR B β' H' w' → Fr B β H w β' H' w' → next (a.put o.dst u) w') → o.wp P a w next Q

/-- Is an operation wanted? -/
def gw (all : Array Oper) (T : Nat → Value) (o : Oper) : Option Bool :=
  match o.guard with
  | none => some true
  | some (j, want) =>
    match (all[j]?).bind (·.dst) with
    | none => some false
    | some d =>
      match T d with
      | .bool b => some (b == want)
      | .tuple _ => some false
      | _ => none

theorem gw_sound {all : Array Oper} {β : Bm} {S : St} {a : Act} (ht : TR β S a) {o : Oper} {b : Bool} (hd : ∀ d ∈ o.guard.bind (fun g => (all[g.1]?).bind (·.dst)), d < S.n) (h : gw all S.T o = some b) :
    Region.wanted o (yielded all a.tmps) = b := by
  unfold gw at h
  unfold Region.wanted
  cases hg : o.guard with
  | none => rw [hg] at h; injection h
  | some p =>
    obtain ⟨j, want⟩ := p
    rw [hg] at h hd
    simp only at h ⊢
    unfold yielded
    cases hj : (all[j]?).bind (·.dst) with
    | none => rw [hj] at h; cases h; rfl
    | some d =>
      have hj' : ((all[j]?).bind fun x => x.dst) = some d := hj
      rw [hj'] at h
      have hlt : d < S.n := hd d (by show d ∈ (all[j]?).bind (·.dst); rw [hj]; rfl)
      have hv := ht.2 d hlt
      have hlt' : d < a.tmps.size := by rw [ht.1]; exact hlt
      simp only [hj, Option.bind_some]
      simp only at h
      have e : a.tmps[d]? = some (a.tmps.getD d undef) := by simp [Array.getD_eq_getD_getElem?, hlt']
      rw [e]
      generalize a.tmps.getD d undef = u at hv
      split at h
      · rename_i b' hb
        rw [hb] at hv
        injection h with h
        subst h
        cases hv
        simp
      · rename_i xs hb
        rw [hb] at hv
        injection h with h
        subst h
        cases hv
        simp
      · cases h

/-- The operations of a region, in the text's order. -/
inductive ROps (P : Program) (all : Array Oper) : List Oper → St → St → Prop
  | nil {S : St} : ROps P all [] S S
  | go {o : Oper} {l : List Oper} {S S' : St} {r : Value} {H' : Hp} (hg : gw all S.T o = some true) (he : aev P o S.rho S.H r H') (hr : ROps P all l ((S.put o.dst r).heap H') S') : ROps P all (o :: l) S S'
  | skip {o : Oper} {l : List Oper} {S S' : St} (hg : gw all S.T o = some false) (hr : ROps P all l (S.put o.dst undef) S') : ROps P all (o :: l) S S'

/-- Every slot that a region names is there. -/
def opOK (n : Nat) (all : Array Oper) (o : Oper) : Bool :=
  o.op.operands.all (opndOK n) && (o.dst.all (· < n)) && ((o.guard.bind (fun g => (all[g.1]?).bind (·.dst))).all (· < n))
def opsOK (n : Nat) (all : Array Oper) : Bool := all.all (opOK n all)

/-- What a piece of code does: it ends by the exit e in the state S'. -/
def Sem (P : Program) (c : Code) (S : St) (e : Exit) (S' : St) : Prop :=
  ∀ (B : Nat) (β : Bm) (a : Act) (w : World), TR β S a → HR B β S.H w → a.defers = [] →
    c.wp P (fun e' a' w' => e' = e ∧ a'.defers = [] ∧ ∃ β', TR β' S' a' ∧ HR B β' S'.H w' ∧ Fr B β S.H w β' S'.H w') a w

theorem put_defers (a : Act) (d : Option Nat) (v : Value) : (a.put d v).defers = a.defers := by cases d <;> rfl
theorem put_n (S : St) (d : Option Nat) (v : Value) : (S.put d v).n = S.n := by cases d <;> rfl
theorem put_H (S : St) (d : Option Nat) (v : Value) : (S.put d v).H = S.H := by cases d <;> rfl

theorem opsOK_at {n : Nat} {all : Array Oper} (h : opsOK n all = true) {i : Nat} {o : Oper} (ho : all[i]? = some o) : opOK n all o = true := by
  unfold opsOK at h
  rw [Array.all_eq_true_iff_forall_mem] at h
  exact h o (Array.mem_of_getElem? ho)

theorem ops_sound {P : Program} {all : Array Oper} {B : Nat} {Q : Exit → Act → World → Prop} {S' : St} : ∀ (l : List Oper) (i : Nat) (S : St) (β : Bm) (a : Act) (w : World),
    (all.toList.drop i = l) → opsOK S.n all = true → ROps P all l S S' → TR β S a → HR B β S.H w → a.defers = [] →
    (∀ β' a' w', TR β' S' a' → HR B β' S'.H w' → Fr B β S.H w β' S'.H w' → a'.defers = [] → Q .normal a' w') → wpOps P all Q ((List.range' i l.length)) a w := by
  intro l
  induction l with
  | nil =>
    intro i S β a w hl hok h ht hr hd hQ
    cases h
    exact hQ β a w ht hr (Fr.refl hr) hd
  | cons o l ih =>
    intro i S β a w hl hok h ht hr hd hQ
    have hi : i < all.toList.length := by
      rcases Nat.lt_or_ge i all.toList.length with h1 | h1
      · exact h1
      · rw [List.drop_of_length_le h1] at hl; cases hl
    have ho : all[i]? = some o := by
      have := congrArg (fun l => l[0]?) hl
      simpa using this
    have hl' : all.toList.drop (i + 1) = l := by
      have := congrArg List.tail hl
      simpa using this
    have hop := opsOK_at hok ho
    unfold opOK at hop
    simp only [Bool.and_eq_true] at hop
    obtain ⟨⟨h1, h2⟩, h3⟩ := hop
    have hguard : ∀ d ∈ o.guard.bind (fun g => (all[g.1]?).bind (·.dst)), d < S.n := by
      intro d hd'
      cases hx : o.guard.bind (fun g => (all[g.1]?).bind (·.dst)) with
      | none => rw [hx] at hd'; cases hd'
      | some y => rw [hx] at hd' h3; cases hd'; simpa using h3
    rw [List.length_cons, List.range'_succ]
    simp only [wpOps, ho]
    cases h with
    | go hg he hrest =>
      rw [gw_sound ht hguard hg]
      simp only [if_true]
      refine .inl (he B β a w (fun x hx => ht.eval ?_) hr _ _ ?_)
      · rw [Array.all_eq_true_iff_forall_mem] at h1
        exact h1 x hx
      · intro β' u w' hv hr' hf
        refine ih (i + 1) _ β' _ w' hl' ?_ hrest ?_ hr' ?_ ?_
        · show opsOK (St.put S o.dst _).n all = true
          rw [put_n]; exact hok
        · exact ((ht.mono (hf.ext hr)).put hv).heap _
        · rw [put_defers]; exact hd
        · intro β'' a'' w'' ht'' hr'' hf'' hd''
          exact hQ β'' a'' w'' ht'' hr'' (hf.trans hf'') hd''
    | skip hg hrest =>
      rw [gw_sound ht hguard hg]
      simp only [Bool.false_eq_true, if_false]
      refine ih (i + 1) _ β _ w hl' (by rw [put_n]; exact hok) hrest (ht.put VR.undef) (by rw [put_H]; exact hr) (by rw [put_defers]; exact hd) ?_
      intro β'' a'' w'' ht'' hr'' hf'' hd''
      rw [put_H] at hf''
      exact hQ β'' a'' w'' ht'' hr'' hf'' hd''

theorem Sem.region {P : Program} {id : Nat} {ops : Array Oper} {S S' : St} (hok : opsOK S.n ops = true) (h : ROps P ops ops.toList S S') : Sem P (.region id ops false) S .normal S' := by
  intro B β a w ht hr hd
  refine wp_region ?_
  rw [List.range_eq_range']
  have := ops_sound (P := P) (B := B) (Q := fun e' a' w' => e' = .normal ∧ a'.defers = [] ∧ ∃ β', TR β' S' a' ∧ HR B β' S'.H w' ∧ Fr B β S.H w β' S'.H w') ops.toList 0 S β a w rfl hok h ht hr hd
    (fun β' a' w' h1 h2 h3 h4 => ⟨rfl, h4, β', h1, h2, h3⟩)
  simpa using this

theorem Sem.skip {P : Program} {S : St} : Sem P .skip S .normal S := fun B β a w ht hr hd => wp_skip ⟨rfl, hd, β, ht, hr, Fr.refl hr⟩
theorem Sem.label {P : Program} {l : Nat} {S : St} : Sem P (.label l) S .normal S := fun B β a w ht hr hd => wp_label ⟨rfl, hd, β, ht, hr, Fr.refl hr⟩
theorem Sem.exit {P : Program} {i : Nat} {S : St} : Sem P (.exit i) S (.exit i) S := fun B β a w ht hr hd => wp_exit ⟨rfl, hd, β, ht, hr, Fr.refl hr⟩
theorem Sem.ret {P : Program} {S : St} : Sem P .ret S .ret S := fun B β a w ht hr hd => wp_ret ⟨rfl, hd, β, ht, hr, Fr.refl hr⟩

theorem Sem.seq {P : Program} {x y : Code} {S S1 S2 : St} {e : Exit} (h : Sem P x S .normal S1) (k : Sem P y S1 e S2) : Sem P (.seq x y) S e S2 := by
  intro B β a w ht hr hd
  refine wp_seq (wp_mono (h B β a w ht hr hd) ?_)
  rintro e1 a1 w1 ⟨rfl, hd1, β1, ht1, hr1, hf1⟩
  refine wp_mono (k B β1 a1 w1 ht1 hr1 hd1) ?_
  rintro e2 a2 w2 ⟨rfl, hd2, β2, ht2, hr2, hf2⟩
  exact ⟨rfl, hd2, β2, ht2, hr2, hf1.trans hf2⟩

theorem Sem.seq_out {P : Program} {x y : Code} {S S1 : St} {e : Exit} (h : Sem P x S e S1) (hne : e ≠ .normal) : Sem P (.seq x y) S e S1 := by
  intro B β a w ht hr hd
  refine wp_seq (wp_mono (h B β a w ht hr hd) ?_)
  rintro e1 a1 w1 ⟨rfl, h1⟩
  cases e1 <;> first | exact absurd rfl hne | exact ⟨rfl, h1⟩

theorem Sem.cond {P : Program} {c : Operand} {x y : Code} {S S1 : St} {e : Exit} {t : Bool} (hok : opndOK S.n c = true) (hc : S.rho c = .bool t) (h : Sem P (if t then x else y) S e S1) : Sem P (.cond c x y) S e S1 := by
  intro B β a w ht hr hd
  have hv := ht.eval hok
  rw [hc] at hv
  exact wp_cond (VR.still_eq rfl hv) (h B β a w ht hr hd)

theorem Sem.block {P : Program} {i : Nat} {c : Code} {S S1 : St} {e : Exit} (h : Sem P c S e S1) (hne : ∀ j, e = .exit j → j ≠ i) : Sem P (.block i c) S e S1 := by
  intro B β a w ht hr hd
  refine wp_block (wp_mono (h B β a w ht hr hd) ?_)
  rintro e1 a1 w1 ⟨rfl, h1⟩
  cases e1 <;> try exact ⟨rfl, h1⟩
  rename_i j
  show (if j = i then _ else _)
  rw [if_neg (hne j rfl)]
  exact ⟨rfl, h1⟩

theorem Sem.block_exit {P : Program} {i : Nat} {c : Code} {S S1 : St} (h : Sem P c S (.exit i) S1) : Sem P (.block i c) S .normal S1 := by
  intro B β a w ht hr hd
  refine wp_block (wp_mono (h B β a w ht hr hd) ?_)
  rintro e1 a1 w1 ⟨rfl, h1⟩
  show (if i = i then _ else _)
  rw [if_pos rfl]
  exact ⟨rfl, h1⟩

/-- A loop by its rounds. -/
inductive Rnds (P : Program) (c : Code) : Nat → St → Exit → St → Prop
  | out {S S1 : St} {e : Exit} (h : Sem P c S e S1) (hne : e ≠ .normal) : Rnds P c 1 S e S1
  | more {n : Nat} {S S1 S2 : St} {e : Exit} (h : Sem P c S .normal S1) (k : Rnds P c n S1 e S2) : Rnds P c (n + 1) S e S2

theorem Sem.loop {P : Program} {c : Code} {n : Nat} {S S2 : St} {e : Exit} (h : Rnds P c n S e S2) : Sem P (.loop c) S e S2 := by
  intro B β a w ht hr hd
  refine wp_loop_rounds n ?_
  have key : ∀ (Q : Exit → Act → World → Prop) β' a' w', TR β' S a' → HR B β' S.H w' → a'.defers = [] →
      (∀ β'' a'' w'', a''.defers = [] → TR β'' S2 a'' → HR B β'' S2.H w'' → Fr B β' S.H w' β'' S2.H w'' → Q e a'' w'') → Code.rounds P c Q n a' w' := by
    clear ht hr hd a w β
    induction h with
    | out h hne =>
      intro Q β a w ht hr hd hQ
      rw [rounds_succ]
      refine wp_mono (h B β a w ht hr hd) ?_
      rintro e1 a1 w1 ⟨rfl, h1, β1, h2, h3, h4⟩
      have := hQ β1 a1 w1 h1 h2 h3 h4
      cases e1 <;> first | exact absurd rfl hne | exact this
    | more h k ih =>
      intro Q β a w ht hr hd hQ
      rw [rounds_succ]
      refine wp_mono (h B β a w ht hr hd) ?_
      rintro e1 a1 w1 ⟨rfl, h1, β1, h2, h3, h4⟩
      exact ih Q β1 a1 w1 h2 h3 h1 (fun β'' a'' w'' k1 k2 k3 k4 => hQ β'' a'' w'' k1 k2 k3 (h4.trans k4))
  exact key _ β a w ht hr hd (fun β'' a'' w'' k1 k2 k3 k4 => ⟨rfl, k1, β'', k2, k3, k4⟩)

end Go.Proofs.Ytefmjpbmdoebaaa

/- The abstract machine, part 3: what the operations come to. -/
set_option linter.unusedVariables false
set_option linter.unusedSimpArgs false
namespace Go.Proofs.Ytefmjpbmdoebaaa
open Go Go.RowKit

section
variable {P : Program} {o : Oper} {ρ : Operand → Value} {H H' : Hp} {r : Value}

theorem aev_intro (h : ∀ (B : Nat) (β : Bm) (a : Act) (w : World), (∀ x ∈ o.op.operands, VR β (ρ x) (a.eval x)) → HR B β H w →
    ∃ β' u w', (execOp a.eval o).run P w = .ok (.value u) w' ∧ VR β' r u ∧ HR B β' H' w' ∧ Fr B β H w β' H' w') : aev P o ρ H r H' := by
  intro B β a w hx hr next Q hn
  obtain ⟨β', u, w', h1, h2, h3, h4⟩ := h B β a w hx hr
  unfold Oper.wp
  rw [h1]
  exact hn β' u w' h2 h3 h4

theorem aev_pure (h : ∀ (β : Bm) (a : Act), (∀ x ∈ o.op.operands, VR β (ρ x) (a.eval x)) → ∃ u, VR β r u ∧ ∀ w, (execOp a.eval o).run P w = .ok (.value u) w) : aev P o ρ H r H :=
  aev_intro fun B β a w hx hr => let ⟨u, h1, h2⟩ := h β a hx; ⟨β, u, w, h2 w, h1, hr, Fr.refl hr⟩

theorem aev_move {x : Operand} (ho : o.op = .move x) : aev P o ρ H (ρ x) H :=
  aev_pure fun β a hx => ⟨a.eval x, hx x (by rw [ho]; simp [Op.operands]), fun w => by simp [execOp, ho]⟩

theorem aev_assign {x : Operand} (ho : o.op = .assign x) : aev P o ρ H (ρ x) H :=
  aev_pure fun β a hx => ⟨a.eval x, hx x (by rw [ho]; simp [Op.operands]), fun w => by simp [execOp, ho]⟩

theorem aev_pick {c x y : Operand} {b : Bool} (ho : o.op = .pick c x y) (hc : ρ c = .bool b) : aev P o ρ H (if b then ρ x else ρ y) H :=
  aev_pure fun β a hx => by
    have h1 := hx c (by rw [ho]; simp [Op.operands])
    have h2 := hx x (by rw [ho]; simp [Op.operands])
    have h3 := hx y (by rw [ho]; simp [Op.operands])
    rw [hc] at h1
    have h4 := VR.still_eq rfl h1
    refine ⟨if b then a.eval x else a.eval y, by cases b <;> assumption, fun w => ?_⟩
    simp [execOp, ho, h4, asBool]

/-- What two whole numbers come to. -/
def ibin (op : BinOp) (k : IntKind) (a b : Int) : Option Value :=
  match op with
  | .add => some (.int k (k.wrap (a + b)))
  | .sub => some (.int k (k.wrap (a - b)))
  | .mul => some (.int k (k.wrap (a * b)))
  | .eql => some (.bool (decide (a = b)))
  | .neq => some (.bool (!decide (a = b)))
  | .lss => some (.bool (decide (a < b)))
  | .leq => some (.bool (decide (a ≤ b)))
  | .gtr => some (.bool (decide (b < a)))
  | .geq => some (.bool (decide (b ≤ a)))
  | _ => none

theorem ibin_still {op : BinOp} {k : IntKind} {a b : Int} {v : Value} (h : ibin op k a b = some v) : Value.still v = true := by
  unfold ibin at h
  split at h <;> first | (cases h; rfl) | cases h

theorem aev_bin {op : BinOp} {t u : TypeId} {x y : Operand} {k : IntKind} {a b : Int} {v : Value} (ho : o.op = .binOp op t x y u) (hx : ρ x = .int k a) (hy : ρ y = .int k b) (hv : ibin op k a b = some v) : aev P o ρ H v H :=
  aev_pure fun β ac hxs => by
    have h1 := hxs x (by rw [ho]; simp [Op.operands])
    have h2 := hxs y (by rw [ho]; simp [Op.operands])
    rw [hx] at h1
    rw [hy] at h2
    have e1 := VR.still_eq rfl h1
    have e2 := VR.still_eq rfl h2
    refine ⟨v, VR.still (ibin_still hv), fun w => ?_⟩
    unfold ibin at hv
    split at hv <;> first
      | (cases hv; simp [execOp, ho, e1, e2, eqGuard_at_int, binOp, Op.intArith, Op.intCmp]; done)
      | (cases hv; by_cases hab : a = b <;> simp [execOp, ho, e1, e2, eqGuard_at_int, binOp, Op.intArith, Op.intCmp, hab]; done)
      | cases hv

theorem aev_not {t : TypeId} {x : Operand} {b : Bool} (ho : o.op = .unOp .not t x) (hx : ρ x = .bool b) : aev P o ρ H (.bool (!b)) H :=
  aev_pure fun β ac hxs => by
    have h1 := hxs x (by rw [ho]; simp [Op.operands])
    rw [hx] at h1
    have e1 := VR.still_eq rfl h1
    exact ⟨.bool (!b), .bool _, fun w => by simp [execOp, ho, e1, Op.unary]⟩

/-- Two bools compared. -/
theorem aev_beq {t u : TypeId} {x y : Operand} {a b : Bool} (ho : o.op = .binOp .eql t x y u) (hx : ρ x = .bool a) (hy : ρ y = .bool b) (ht : P.underlying t = some .bool) : aev P o ρ H (.bool (a == b)) H :=
  aev_pure fun β ac hxs => by
    have h1 := hxs x (by rw [ho]; simp [Op.operands])
    have h2 := hxs y (by rw [ho]; simp [Op.operands])
    rw [hx] at h1
    rw [hy] at h2
    have e1 := VR.still_eq rfl h1
    have e2 := VR.still_eq rfl h2
    refine ⟨.bool (a == b), .bool _, fun w => ?_⟩
    simp [execOp, ho, e1, e2, eqGuard_at_bool, run_eql_bool w t a b ht]

theorem aev_bne {t u : TypeId} {x y : Operand} {a b : Bool} (ho : o.op = .binOp .neq t x y u) (hx : ρ x = .bool a) (hy : ρ y = .bool b) (ht : P.underlying t = some .bool) : aev P o ρ H (.bool (!(a == b))) H :=
  aev_pure fun β ac hxs => by
    have h1 := hxs x (by rw [ho]; simp [Op.operands])
    have h2 := hxs y (by rw [ho]; simp [Op.operands])
    rw [hx] at h1
    rw [hy] at h2
    have e1 := VR.still_eq rfl h1
    have e2 := VR.still_eq rfl h2
    refine ⟨.bool (!(a == b)), .bool _, fun w => ?_⟩
    simp [execOp, ho, e1, e2, eqGuard_at_bool, run_neq_bool w t a b ht]

theorem aev_len {t : TypeId} {x : Operand} {p : Option Addr} {n c : Nat} {ts : Array TypeId} (ho : o.op = .call { callee := .builtin .len, args := #[x], argTypes := ts }) (hts : ts = #[t]) (ht : P.underlying t = some (.slice (P.elem t))) (hx : ρ x = .slice p n c) :
    aev P o ρ H (.int .i64 n) H :=
  aev_pure fun β ac hxs => by
    have h1 := hxs x (by rw [ho]; simp [Op.operands, Call.operands])
    rw [hx] at h1
    refine ⟨.int .i64 n, .int _ _, fun w => ?_⟩
    subst hts
    generalize he : ac.eval x = u at h1
    cases h1 with
    | emp a c' hm => have := run_len_slice (P := P) (w := w) t o.type (some a) 0 c' ht; simp [execOp, ho, resolve, invoke, builtin, he, this, goInt]
    | nilslice => have := run_len_slice (P := P) (w := w) t o.type none 0 0 ht; simp [execOp, ho, resolve, invoke, builtin, he, this, goInt]
    | slice hb hoff hl hm hk =>
      rename_i id off off' b k c'
      have := run_len_slice (P := P) (w := w) t o.type (some ⟨b, off', none⟩) n c' ht; simp [execOp, ho, resolve, invoke, builtin, he, this, goInt]

/-! ### memory -/
def aggB : TypeDesc → Bool
  | .struct _ | .array _ _ => true
  | _ => false

theorem run_isAgg {t : TypeId} {d : TypeDesc} (ht : P.underlying t = some d) (w : World) : (isAgg t).run P w = .ok (aggB d) w := by
  unfold isAgg
  simp only [Sem.run_bind, run_underlying ht, Result.andThen_ok]
  cases d <;> rfl

theorem aev_load {t : TypeId} {d : TypeDesc} {x : Operand} {id off : Nat} {ob : Ob} {v : Value} (ho : o.op = .load t x) (ht : P.underlying t = some d) (hd : aggB d = false) (hx : ρ x = .pointer (some ⟨id, off, none⟩))
    (hg : H.get id = some ob) (hv : ob.cs[off]? = some v) : aev P o ρ H v H :=
  aev_intro fun B β ac w hxs hr => by
    have h1 := hxs x (by rw [ho]; simp [Op.operands])
    rw [hx] at h1
    generalize he : ac.eval x = u at h1
    cases h1 with
    | ptr hb =>
      rename_i b k
      obtain ⟨u, h2, h3⟩ := hr.cell id ob b k hg hb off v hv
      refine ⟨β, u, w, ?_, h3, hr, Fr.refl hr⟩
      simp [execOp, ho, he, Instr.loadAt, Instr.sureAddr, loadVar, run_isAgg ht, hd, h2]

/-- The cells of a struct in memory. -/
theorem aev_loadN {t : TypeId} {d : TypeDesc} {x : Operand} {id off n : Nat} {ob : Ob} {cs : List Value} {i : TypeInfo} (ho : o.op = .load t x) (ht : P.underlying t = some d) (hd : aggB d = true) (hi : P.info? t = some i) (hn : i.size = cs.length)
    (hx : ρ x = .pointer (some ⟨id, off, none⟩)) (hg : H.get id = some ob) (hv : ∀ j v, cs[j]? = some v → ob.cs[off + j]? = some v) : aev P o ρ H (.agg cs.toArray) H :=
  aev_intro fun B β ac w hxs hr => by
    have h1 := hxs x (by rw [ho]; simp [Op.operands])
    rw [hx] at h1
    generalize he : ac.eval x = u at h1
    cases h1 with
    | ptr hb =>
      rename_i b k
      have hc : ∀ j, ∃ u, j < cs.length → w.cell? ⟨b, off + j, none⟩ = some u ∧ VR β (cs.getD j junk) u := by
        intro j
        by_cases hj : j < cs.length
        · obtain ⟨u, h2, h3⟩ := hr.cell id ob b k hg hb (off + j) _ (hv j cs[j] (List.getElem?_eq_getElem hj))
          exact ⟨u, fun _ => ⟨h2, by simpa [List.getD_eq_getElem?_getD, hj] using h3⟩⟩
        · exact ⟨junk, fun h => absurd h hj⟩
      obtain ⟨us, hus⟩ : ∃ us : Nat → Value, ∀ j, j < cs.length → w.cell? ⟨b, off + j, none⟩ = some (us j) ∧ VR β (cs.getD j junk) (us j) := ⟨fun j => Classical.choose (hc j), fun j => Classical.choose_spec (hc j)⟩
      have hl : ((List.range cs.length).map us).length = cs.length := by simp
      have hcell : ∀ j v, ((List.range cs.length).map us)[j]? = some v → w.cell? ((⟨b, off, none⟩ : Addr).add j) = some v := by
        intro j v hjv
        have hj : j < cs.length := by
          have := (List.getElem?_eq_some_iff.1 hjv).1
          simpa using this
        have e : ((List.range cs.length).map us)[j]? = some (us j) := by simp [hj]
        rw [e] at hjv
        injection hjv with hjv
        rw [Addr.add_lit, ← hjv]
        exact (hus j hj).1
      have hrun := run_loadCells_list (P := P) (w := w) ⟨b, off, none⟩ ((List.range cs.length).map us) hcell
      rw [hl] at hrun
      refine ⟨β, .agg ((List.range cs.length).map us).toArray, w, ?_, ?_, hr, Fr.refl hr⟩
      · simp [execOp, ho, he, Instr.loadAt, Instr.sureAddr, loadVar, run_isAgg ht, hd, sizeOf, typeInfo, hi, hn, hrun]
      · refine .agg (by simp) fun j hj => ?_
        have hj' : j < cs.length := by simpa using hj
        have := (hus j hj').2
        simpa [Array.getD_eq_getD_getElem?, List.getD_eq_getElem?_getD, hj'] using this

theorem aev_fieldAddr {s : TypeId} {x : Operand} {f : Nat} {fl : Field} {fs : Array Field} {i : TypeInfo} {id off : Nat} (ho : o.op = .fieldAddr s x f) (hs : P.underlying s = some (.struct fs)) (hf : fs[f]? = some fl) (hi : P.info? fl.type = some i) (hz : i.size ≠ 0)
    (hx : ρ x = .pointer (some ⟨id, off, none⟩)) : aev P o ρ H (.pointer (some ⟨id, off + fl.offset, none⟩)) H :=
  aev_pure fun β ac hxs => by
    have h1 := hxs x (by rw [ho]; simp [Op.operands])
    rw [hx] at h1
    generalize he : ac.eval x = u at h1
    cases h1 with
    | ptr hb =>
      rename_i b k
      exact ⟨.pointer (some ⟨b, off + fl.offset, none⟩), .ptr hb, fun w => by simp [execOp, ho, he, Instr.fieldAt, run_underlying hs, hf, Instr.sureAddr, fieldPlace, sizeOf, typeInfo, hi, hz, Addr.add_lit]⟩

theorem aev_nilCheck {x : Operand} {id off : Nat} (ho : o.op = .nilCheck x) (hx : ρ x = .pointer (some ⟨id, off, none⟩)) : aev P o ρ H (.pointer (some ⟨id, off, none⟩)) H :=
  aev_pure fun β ac hxs => by
    have h1 := hxs x (by rw [ho]; simp [Op.operands])
    rw [hx] at h1
    generalize he : ac.eval x = u at h1
    cases h1 with
    | ptr hb =>
      rename_i b k
      exact ⟨.pointer (some ⟨b, off, none⟩), .ptr hb, fun w => by simp [execOp, ho, he]⟩

theorem aev_indexAddr {t e : TypeId} {x y : Operand} {id off len : Nat} {k : IntKind} {j : Int} {i : TypeInfo} (ho : o.op = .indexAddr t x y) (ht : P.underlying t = some (.slice e)) (hi : P.info? e = some i) (hx : ρ x = .slice (some ⟨id, off, none⟩) len len) (hy : ρ y = .int k j)
    (h0 : 0 ≤ j) (h1 : j < len) : aev P o ρ H (.pointer (some ⟨id, off + j.toNat * i.size, none⟩)) H :=
  aev_pure fun β ac hxs => by
    have g1 := hxs x (by rw [ho]; simp [Op.operands])
    have g2 := hxs y (by rw [ho]; simp [Op.operands])
    rw [hx] at g1
    rw [hy] at g2
    have e2 := VR.still_eq rfl g2
    generalize he : ac.eval x = u at g1
    cases g1 with
    | slice hb hoff hl hm hk =>
      rename_i off' b k c
      obtain rfl : off' = off := by omega
      refine ⟨.pointer (some ⟨b, off' + j.toNat * i.size, none⟩), .ptr hb, fun w => ?_⟩
      simp [execOp, ho, he, e2, Instr.indexAt, asIntOf, run_underlying ht, h0, h1, sizeOf, typeInfo, hi, Addr.add_lit]

end
end Go.Proofs.Ytefmjpbmdoebaaa

/- The abstract machine, part 4: operations that make memory or write it. -/
set_option linter.unusedVariables false
set_option linter.unusedSimpArgs false
namespace Go.Proofs.Ytefmjpbmdoebaaa
open Go Go.RowKit

/-- A new row. -/
def Hp.new (H : Hp) (ob : Ob) : Hp where
  get := fun i => if i = H.nxt then some ob else H.get i
  own := fun i => if i = H.nxt then true else H.own i
  root := fun i => if i = H.nxt then H.nxt else H.root i
  nxt := H.nxt + 1
  wf := fun i hi => by rw [if_neg (by omega)]; exact H.wf i (by omega)
  rt := fun i hi => by
    by_cases e : i = H.nxt
    · rw [if_pos e]; omega
    · rw [if_neg e]; exact H.rt i (by omega)
  ou := fun i j hi hj h1 h2 h3 => by
    by_cases e : i = H.nxt <;> by_cases e' : j = H.nxt
    · omega
    · rw [if_pos e, if_neg e'] at h3
      have := H.rt j (by omega); omega
    · rw [if_neg e, if_pos e'] at h3
      have := H.rt i (by omega); omega
    · rw [if_neg e] at h1 h3
      rw [if_neg e'] at h2 h3
      exact H.ou i j (by omega) (by omega) h1 h2 h3

/-- A row written: what may lie in the same place is lost. -/
def Hp.upd (H : Hp) (id : Nat) (ob : Ob) (h : id < H.nxt) : Hp where
  get := fun i => if i = id then some ob else if H.root i = H.root id then none else H.get i
  own := H.own
  root := H.root
  nxt := H.nxt
  wf := fun i hi => by
    rw [if_neg (by omega)]
    split
    · rfl
    · exact H.wf i hi
  rt := H.rt
  ou := H.ou

/-- A row that has been appended to: it is only read from now on; the longer one is the call's own. -/
def Hp.app (H : Hp) (id : Nat) (ob : Ob) (h : id < H.nxt) (ho : H.own id = true) : Hp where
  get := fun i => if i = H.nxt then some ob else H.get i
  own := fun i => if i = H.nxt then true else if i = id then false else H.own i
  root := fun i => if i = H.nxt then H.root id else H.root i
  nxt := H.nxt + 1
  wf := fun i hi => by rw [if_neg (by omega)]; exact H.wf i (by omega)
  rt := fun i hi => by
    by_cases e : i = H.nxt
    · rw [if_pos e]; have := H.rt id h; omega
    · rw [if_neg e]; exact H.rt i (by omega)
  ou := fun i j hi hj h1 h2 h3 => by
    by_cases e : i = H.nxt <;> by_cases e' : j = H.nxt
    · omega
    · exfalso
      rw [if_pos e, if_neg e'] at h3
      rw [if_neg e'] at h2
      by_cases e2 : j = id
      · rw [if_pos e2] at h2; cases h2
      · rw [if_neg e2] at h2
        exact e2 (H.ou id j h (by omega) ho h2 h3).symm
    · exfalso
      rw [if_neg e, if_pos e'] at h3
      rw [if_neg e] at h1
      by_cases e2 : i = id
      · rw [if_pos e2] at h1; cases h1
      · rw [if_neg e2] at h1
        exact e2 (H.ou i id (by omega) h h1 ho h3)
    · rw [if_neg e] at h1 h3
      rw [if_neg e'] at h2 h3
      by_cases e2 : i = id
      · rw [if_pos e2] at h1; cases h1
      · by_cases e3 : j = id
        · rw [if_pos e3] at h2; cases h2
        · rw [if_neg e2] at h1
          rw [if_neg e3] at h2
          exact H.ou i j (by omega) (by omega) h1 h2 h3

theorem Hp.lt {H : Hp} {id : Nat} {ob : Ob} (h : H.get id = some ob) : id < H.nxt := by
  rcases Nat.lt_or_ge id H.nxt with h1 | h1
  · exact h1
  · rw [H.wf id h1] at h; cases h
theorem Hp.new_get (H : Hp) (ob : Ob) : (H.new ob).get H.nxt = some ob := if_pos rfl
theorem Hp.new_own (H : Hp) (ob : Ob) : (H.new ob).own H.nxt = true := if_pos rfl
theorem Hp.new_root (H : Hp) (ob : Ob) : (H.new ob).root H.nxt = H.nxt := if_pos rfl
theorem Hp.new_lt {H : Hp} {ob : Ob} {id : Nat} (h : id < H.nxt) : (H.new ob).get id = H.get id := if_neg (by omega)
theorem Hp.new_own_lt {H : Hp} {ob : Ob} {id : Nat} (h : id < H.nxt) : (H.new ob).own id = H.own id := if_neg (by omega)
theorem Hp.new_root_lt {H : Hp} {ob : Ob} {id : Nat} (h : id < H.nxt) : (H.new ob).root id = H.root id := if_neg (by omega)
theorem Hp.new_old {H : Hp} {ob ob' : Ob} {id : Nat} (h : H.get id = some ob') : (H.new ob).get id = some ob' := by rw [Hp.new_lt (Hp.lt h)]; exact h
theorem Hp.app_get (H : Hp) (id : Nat) (ob : Ob) (h : id < H.nxt) (ho : H.own id = true) : (H.app id ob h ho).get H.nxt = some ob := if_pos rfl
theorem Hp.app_own (H : Hp) (id : Nat) (ob : Ob) (h : id < H.nxt) (ho : H.own id = true) : (H.app id ob h ho).own H.nxt = true := if_pos rfl
theorem Hp.app_root (H : Hp) (id : Nat) (ob : Ob) (h : id < H.nxt) (ho : H.own id = true) : (H.app id ob h ho).root H.nxt = H.root id := if_pos rfl
theorem Hp.app_lt {H : Hp} {ob : Ob} {id id' : Nat} {h0 : id < H.nxt} {ho : H.own id = true} (h : id' < H.nxt) : (H.app id ob h0 ho).get id' = H.get id' := if_neg (by omega)
theorem Hp.app_own_lt {H : Hp} {ob : Ob} {id id' : Nat} {h0 : id < H.nxt} {ho : H.own id = true} (h : id' < H.nxt) (hne : id' ≠ id) : (H.app id ob h0 ho).own id' = H.own id' := by
  show (if id' = H.nxt then _ else if id' = id then _ else _) = _
  rw [if_neg (by omega), if_neg hne]
theorem Hp.app_own_old {H : Hp} {ob : Ob} {id : Nat} {h0 : id < H.nxt} {ho : H.own id = true} : (H.app id ob h0 ho).own id = false := by
  show (if id = H.nxt then _ else if id = id then _ else _) = _
  rw [if_neg (by omega), if_pos rfl]
theorem Hp.app_root_lt {H : Hp} {ob : Ob} {id id' : Nat} {h0 : id < H.nxt} {ho : H.own id = true} (h : id' < H.nxt) : (H.app id ob h0 ho).root id' = H.root id' := if_neg (by omega)
theorem Hp.upd_get (H : Hp) (id : Nat) (ob : Ob) (h : id < H.nxt) : (H.upd id ob h).get id = some ob := if_pos rfl
theorem Hp.upd_root {H : Hp} {ob : Ob} {id id' : Nat} {h0 : id < H.nxt} (hne : H.root id' ≠ H.root id) : (H.upd id ob h0).get id' = H.get id' := by
  show (if id' = id then _ else if _ then _ else _) = _
  rw [if_neg (fun e => hne (by rw [e])), if_neg hne]
theorem Hp.upd_live {H : Hp} {ob ob' : Ob} {id id' : Nat} {h0 : id < H.nxt} (h : (H.upd id ob h0).get id' = some ob') (hne : id' ≠ id) : H.root id' ≠ H.root id ∧ H.get id' = some ob' := by
  change (if id' = id then _ else if _ then _ else _) = _ at h
  rw [if_neg hne] at h
  split at h
  · cases h
  · exact ⟨by assumption, h⟩

def Bm.set (β : Bm) (id : Nat) (p : Nat × Option (Nat × Nat)) : Bm := fun j => if j = id then some p else β j
theorem Bm.set_at (β : Bm) (id : Nat) (p) : (Bm.set β id p) id = some p := if_pos rfl
theorem Bm.set_ne (β : Bm) {id j : Nat} (p) (h : j ≠ id) : (Bm.set β id p) j = β j := if_neg h

theorem HR.bump {B : Nat} {β : Bm} {H : Hp} {w : World} (hr : HR B β H w) {p} : ∀ id q, β id = some q → (Bm.set β H.nxt p) id = some q := fun id q hq => by
  have := hr.lt hq
  rw [Bm.set_ne _ _ (by omega)]; exact hq

theorem alloc_cell (w : World) (us : Array Value) (e : Nat) (i : Nat) : (w.alloc (.cells us e)).cell? ⟨w.heap.size, i, none⟩ = us[i]? := by
  have h : (w.alloc (.cells us e)).heap[w.heap.size]? = some (.cells us e (0, 0)) := by show (w.heap.push _)[_]? = _; simp
  unfold World.cell?
  rw [h]
  rfl
theorem alloc_cell_old (w : World) (ob : Obj) {b : Nat} (hb : b < w.heap.size) (i : Nat) : (w.alloc ob).cell? ⟨b, i, none⟩ = w.cell? ⟨b, i, none⟩ :=
  World.cell?_of_block (Below.heap_alloc w ob b hb)

/-- A value's cells. -/
def cellsOf : Value → List Value
  | .agg xs => xs.toList
  | v => [v]

/-- Something is known of the value, and it lies in cells. -/
def Value.known : Value → Bool
  | .agg _ => true
  | v => Value.one v

theorem VR.cells {β : Bm} {v u : Value} (h : Value.known v = true) (hv : VR β v u) : (cellsOf v).length = u.cells.size ∧ ∀ i x, (cellsOf v)[i]? = some x → VR β x (u.cells.getD i junk) := by
  have one : ∀ v u : Value, VR β v u → (∀ xs, u ≠ .agg xs) → cellsOf v = [v] → (cellsOf v).length = u.cells.size ∧ ∀ i x, (cellsOf v)[i]? = some x → VR β x (u.cells.getD i junk) := by
    intro v u hv hu hc
    have hu' : u.cells = #[u] := by
      unfold Value.cells
      split
      · exact absurd rfl (hu _)
      · rfl
    rw [hc, hu']
    refine ⟨rfl, fun i x hx => ?_⟩
    cases i with
    | zero => simp at hx; subst hx; exact hv
    | succ i => simp at hx
  cases hv with
  | any v => simp [Value.known, Value.one, junk] at h
  | agg hs hx =>
    rename_i xs ys
    refine ⟨by simpa [cellsOf, Value.cells] using hs, fun i x hi => ?_⟩
    have hi' : xs[i]? = some x := by simpa [cellsOf] using hi
    have hlt : i < xs.size := (Array.getElem?_eq_some_iff.1 hi').1
    have := hx i hlt
    simpa [Value.cells, Array.getD_eq_getD_getElem?, hi'] using this
  | tuple hs hx => simp [Value.known, Value.one] at h
  | bool b => exact one _ _ (.bool b) (by intro xs h; cases h) rfl
  | int k n => exact one _ _ (.int k n) (by intro xs h; cases h) rfl
  | string s => exact one _ _ (.string s) (by intro xs h; cases h) rfl
  | nilptr => exact one _ _ .nilptr (by intro xs h; cases h) rfl
  | nilslice => exact one _ _ .nilslice (by intro xs h; cases h) rfl
  | emp a c hm => exact one _ _ (.emp a c hm) (by intro xs h; cases h) rfl
  | nilmap => exact one _ _ .nilmap (by intro xs h; cases h) rfl
  | nilfunc => exact one _ _ .nilfunc (by intro xs h; cases h) rfl
  | niliface => exact one _ _ .niliface (by intro xs h; cases h) rfl
  | map hb => exact one _ _ (.map hb) (by intro xs h; cases h) rfl
  | slice hb ho hl hm hk => exact one _ _ (.slice hb ho hl hm hk) (by intro xs h; cases h) rfl
  | ptr hb => exact one _ _ (.ptr hb) (by intro xs h; cases h) rfl
  | func f a b c d => exact one _ _ (.func f a b c d) (by intro xs h; cases h) rfl

section
variable {P : Program} {o : Oper} {ρ : Operand → Value} {H H' : Hp} {r : Value}

theorem known_list {l : List Value} (h : l.all Value.still = true) : ∀ (i : Nat) (β : Bm) (v : Value), l[i]? = some v → VR β v v := fun i β v hi => by
  rw [List.all_eq_true] at h
  exact VR.still (h v (List.mem_of_getElem? hi))

theorem cells_eq (z : Value) : z.cells.toList = cellsOf z := by
  cases z <;> rfl

end
end Go.Proofs.Ytefmjpbmdoebaaa

/- The abstract machine, part 5: stores, append, slices, make, literals. -/
set_option linter.unusedVariables false
set_option linter.unusedSimpArgs false
namespace Go.Proofs.Ytefmjpbmdoebaaa
open Go Go.RowKit

/-- A row of the call's own has been written in place. -/
theorem HR.upd {B : Nat} {β : Bm} {H : Hp} {w w' : World} (hr : HR B β H w) {id b : Nat} {k : Option (Nat × Nat)} {ob ob' : Ob} (hg : H.get id = some ob) (hb : β id = some (b, k)) (ho : H.own id = true) (hid : id < H.nxt)
    (he : ob'.e = ob.e) (hz : ob'.sz = ob.sz) (hl : ob'.cs.length ≤ ob.cs.length)
    (hos : w'.os = w.os) (htp : w'.tape = w.tape) (hou : w'.output = w.output) (hsz : w'.heap.size = w.heap.size) (hother : ∀ j, j ≠ b → w'.heap[j]? = w.heap[j]?)
    {cur : Array Value} (hcur : w'.heap[b]? = some (.cells cur ob.e (0, 0))) (hK : ∀ K sz, k = some (K, sz) → K ≤ cur.size) (hv : ∀ (i : Nat) (v : Value), ob'.cs[i]? = some v → ∃ u, cur[i]? = some u ∧ VR β v u) :
    HR B β (H.upd id ob' hid) w' ∧ Fr B β H w β (H.upd id ob' hid) w' := by
  obtain ⟨hB, K0, cur0, hk0, hc0, hK0, hl0⟩ := hr.own id ob b k hg hb ho
  have far : ∀ i ob1 b1 k1, i ≠ id → (H.upd id ob' hid).get i = some ob1 → β i = some (b1, k1) → H.get i = some ob1 ∧ b1 ≠ b := by
    intro i ob1 b1 k1 hne hg1 hb1
    obtain ⟨h1, h2⟩ := Hp.upd_live hg1 hne
    refine ⟨h2, fun e => ?_⟩
    subst e
    rcases hr.inj id i ob ob1 b1 k k1 hg h2 hb hb1 ho with h3 | ⟨h3, _⟩
    · exact hne h3
    · exact h1 h3
  have notmap : ∀ i l, i = id → (H.upd id ob' hid).get i ≠ some (mapOb l) := by
    intro i l e h
    subst e
    rw [Hp.upd_get] at h
    have h5 : ob' = mapOb l := Option.some.inj h
    subst hk0
    have := (hr.siz i ob b K0 ob.sz hg hb).2
    rw [← hz, h5] at this
    exact absurd this (by show ¬ 0 < 0; omega)
  refine ⟨⟨hr.dom, fun i b' k' h => by rw [hsz]; exact hr.blk i b' k' h, ?_, ?_, ?_, ?_, by rw [hsz]; exact hr.base, ?_, ?_⟩, ?_⟩
  · intro i ob1 b1 k1 hg1 hb1 j v hj
    by_cases e : i = id
    · subst e
      rw [Hp.upd_get] at hg1; cases hg1
      rw [hb] at hb1; cases hb1
      obtain ⟨u, h1, h2⟩ := hv j v hj
      exact ⟨u, by unfold World.cell?; rw [hcur]; exact h1, h2⟩
    · obtain ⟨h1, hne⟩ := far i ob1 b1 k1 e hg1 hb1
      obtain ⟨u, h1, h2⟩ := hr.cell i ob1 b1 k1 h1 hb1 j v hj
      exact ⟨u, by rw [World.cell?_of_block (w := w) (hother b1 hne)]; exact h1, h2⟩
  · intro i ob1 b1 K1 s1 hg1 hb1
    by_cases e : i = id
    · subst e
      rw [Hp.upd_get] at hg1; cases hg1
      rw [hz]; exact hr.siz i ob b1 K1 s1 hg hb1
    · exact hr.siz i ob1 b1 K1 s1 (far i ob1 b1 _ e hg1 hb1).1 hb1
  · intro i ob1 b1 k1 hg1 hb1 hi
    by_cases e : i = id
    · subst e
      rw [Hp.upd_get] at hg1; cases hg1
      rw [hb] at hb1; cases hb1
      refine ⟨hB, K0, cur, ?_, ?_, hK K0 ob.sz hk0, Nat.le_trans hl hl0⟩
      · rw [hz]; exact hk0
      · rw [he]; exact hcur
    · obtain ⟨h0, hne⟩ := far i ob1 b1 k1 e hg1 hb1
      obtain ⟨h1, K1, cur1, h2, h3, h4⟩ := hr.own i ob1 b1 k1 h0 hb1 hi
      exact ⟨h1, K1, cur1, h2, by rw [hother b1 hne]; exact h3, h4⟩
  · intro i i' ob1 ob2 b1 k1 k2 hg1 hg2 hb1 hb2 hi
    by_cases e : i = id <;> by_cases e' : i' = id
    · exact .inl (by rw [e, e'])
    · exfalso
      subst e
      rw [hb] at hb1; cases hb1
      exact (far i' ob2 _ _ e' hg2 hb2).2 rfl
    · exfalso
      subst e'
      rw [hb] at hb2; cases hb2
      exact (far i ob1 _ _ e hg1 hb1).2 rfl
    · exact hr.inj i i' ob1 ob2 b1 k1 k2 (far i ob1 _ _ e hg1 hb1).1 (far i' ob2 _ _ e' hg2 hb2).1 hb1 hb2 hi
  · intro i b1 k1 l hg1 hb1
    by_cases e : i = id
    · exact absurd hg1 (fun h => notmap i l e h)
    · obtain ⟨h1, hne⟩ := far i _ b1 k1 e hg1 hb1
      rw [hother b1 hne]
      exact hr.mp i b1 k1 l h1 hb1
  · intro i i' b1 k1 k2 l l' hg1 hg2 hb1 hb2
    by_cases e : i = id
    · exact absurd hg1 (fun h => notmap i l e h)
    · by_cases e' : i' = id
      · exact absurd hg2 (fun h => notmap i' l' e' h)
      · exact hr.mpi i i' b1 k1 k2 l l' (far i _ b1 k1 e hg1 hb1).1 (far i' _ b1 k2 e' hg2 hb2).1 hb1 hb2
  · exact ⟨fun _ _ => rfl, ⟨hos, htp, hou, Nat.le_of_eq hsz.symm, fun j hj => hother j (by omega)⟩, Nat.le_refl _⟩

/-- A row of the call's own has been made longer: in its own block, or in a new one. -/
theorem HR.app {B : Nat} {β : Bm} {H : Hp} {w w' : World} (hr : HR B β H w) {id b g K : Nat} {k : Option (Nat × Nat)} {ob ob' : Ob} (hg : H.get id = some ob) (hb : β id = some (b, k)) (ho : H.own id = true)
    (hgr : w.grownBy w' (some b)) (hat : (g = b ∧ ob.cs.length ≤ ob'.cs.length) ∨ (w.heap.size ≤ g ∧ g < w'.heap.size)) {cur : Array Value} (hcur : w'.heap[g]? = some (.cells cur ob'.e (0, 0))) (hK : K ≤ cur.size) (hl : ob'.cs.length ≤ K)
    (hv : ∀ (i : Nat) (v : Value), ob'.cs[i]? = some v → ∃ u, cur[i]? = some u ∧ VR β v u) (hkeep : ∀ i, i < ob.cs.length → w'.cell? ⟨b, i, none⟩ = w.cell? ⟨b, i, none⟩) (h0 : 0 < ob'.sz) :
    HR B (Bm.set β H.nxt (g, some (K, ob'.sz))) (H.app id ob' (Hp.lt hg) ho) w' ∧ Fr B β H w (Bm.set β H.nxt (g, some (K, ob'.sz))) (H.app id ob' (Hp.lt hg) ho) w' := by
  have hmono := hr.bump (p := (g, some (K, ob'.sz)))
  obtain ⟨hB, K0, cur0, hk0, hc0, hK0, hl0⟩ := hr.own id ob b k hg hb ho
  have hbs := hr.blk id b k hb
  have hidlt := hr.lt hb
  have hg2 : g < w'.heap.size := (Array.getElem?_eq_some_iff.1 hcur).1
  have hBg : B ≤ g := by
    have := hr.base
    rcases hat with ⟨rfl, _⟩ | h
    · exact hB
    · omega
  have hold : ∀ j, j < w.heap.size → j ≠ b → w'.heap[j]? = w.heap[j]? := fun j hj hn => hgr.block j hj (fun e => hn (by injection e))
  -- what shares the block with the row
  have near : ∀ i ob1 k1, H.get i = some ob1 → β i = some (b, k1) → i = id ∨ (H.root i = H.root id ∧ ob1.cs.length ≤ ob.cs.length ∧ H.own i = false) := fun i ob1 k1 h1 h2 => hr.inj id i ob ob1 b k k1 hg h1 hb h2 ho
  have hmb : ∀ i b1 k1 l, H.get i = some (mapOb l) → β i = some (b1, k1) → b1 ≠ b := by
    intro i b1 k1 l h1 h2 e
    subst e
    obtain ⟨_, es, cl, h3, _⟩ := hr.mp i b1 k1 l h1 h2
    rw [hc0] at h3; cases h3
  refine ⟨⟨?_, ?_, ?_, ?_, ?_, ?_, ?_, ?_, ?_⟩, ?_⟩
  · intro i hi
    have hi' : H.nxt + 1 ≤ i := hi
    rw [Bm.set_ne _ _ (by omega)]
    exact hr.dom i (by omega)
  · intro i b' k' h
    by_cases e : i = H.nxt
    · subst e; rw [Bm.set_at] at h; cases h; exact hg2
    · rw [Bm.set_ne _ _ e] at h
      exact Nat.lt_of_lt_of_le (hr.blk i b' k' h) hgr.size
  · intro i ob1 b1 k1 hg1 hb1 j v hj
    by_cases e : i = H.nxt
    · subst e
      rw [Bm.set_at] at hb1; cases hb1
      rw [Hp.app_get] at hg1; cases hg1
      obtain ⟨u, h1, h2⟩ := hv j v hj
      exact ⟨u, by unfold World.cell?; rw [hcur]; exact h1, h2.mono hmono⟩
    · rw [Bm.set_ne _ _ e] at hb1
      rw [Hp.app_lt (hr.lt hb1)] at hg1
      obtain ⟨u, h1, h2⟩ := hr.cell i ob1 b1 k1 hg1 hb1 j v hj
      refine ⟨u, ?_, h2.mono hmono⟩
      by_cases e2 : b1 = b
      · subst e2
        have hlt := (List.getElem?_eq_some_iff.1 hj).1
        rw [hkeep j ?_]
        · exact h1
        · rcases near i ob1 k1 hg1 hb1 with e3 | ⟨_, h3, _⟩
          · subst e3; rw [hg] at hg1; cases hg1; exact hlt
          · omega
      · rw [World.cell?_of_block (w := w) (hold b1 (hr.blk i b1 k1 hb1) e2)]; exact h1
  · intro i ob1 b1 K1 s1 hg1 hb1
    by_cases e : i = H.nxt
    · subst e
      rw [Bm.set_at] at hb1; cases hb1
      rw [Hp.app_get] at hg1; cases hg1; exact ⟨rfl, h0⟩
    · rw [Bm.set_ne _ _ e] at hb1
      rw [Hp.app_lt (hr.lt hb1)] at hg1
      exact hr.siz i ob1 b1 K1 s1 hg1 hb1
  · intro i ob1 b1 k1 hg1 hb1 hi
    by_cases e : i = H.nxt
    · subst e
      rw [Bm.set_at] at hb1; cases hb1
      rw [Hp.app_get] at hg1; cases hg1
      exact ⟨hBg, K, cur, rfl, hcur, hK, hl⟩
    · rw [Bm.set_ne _ _ e] at hb1
      rw [Hp.app_lt (hr.lt hb1)] at hg1
      by_cases e2 : i = id
      · subst e2; rw [Hp.app_own_old] at hi; cases hi
      · rw [Hp.app_own_lt (hr.lt hb1) e2] at hi
        obtain ⟨h1, K1, cur1, h2, h3, h4⟩ := hr.own i ob1 b1 k1 hg1 hb1 hi
        have hne : b1 ≠ b := by
          intro e3
          subst e3
          rcases near i ob1 k1 hg1 hb1 with e4 | ⟨_, _, h5⟩
          · exact e2 e4
          · rw [hi] at h5; cases h5
        exact ⟨h1, K1, cur1, h2, by rw [hold b1 (hr.blk i b1 k1 hb1) hne]; exact h3, h4⟩
  · intro i i' ob1 ob2 b1 k1 k2 hg1 hg2' hb1 hb2 hi
    by_cases e : i = H.nxt <;> by_cases e' : i' = H.nxt
    · exact .inl (by rw [e, e'])
    · subst e
      rw [Bm.set_at] at hb1; cases hb1
      rw [Hp.app_get] at hg1; cases hg1
      rw [Bm.set_ne _ _ e'] at hb2
      have hlt := hr.lt hb2
      rw [Hp.app_lt hlt] at hg2'
      rw [Hp.app_root, Hp.app_root_lt hlt]
      rcases hat with ⟨rfl, hle⟩ | h6
      · refine .inr ?_
        rcases near i' ob2 k2 hg2' hb2 with e4 | ⟨h5, h6, h7⟩
        · subst e4; rw [hg] at hg2'; cases hg2'
          exact ⟨rfl, hle, Hp.app_own_old⟩
        · refine ⟨h5, by omega, ?_⟩
          by_cases e5 : i' = id
          · subst e5; exact Hp.app_own_old
          · rw [Hp.app_own_lt hlt e5]; exact h7
      · have := hr.blk i' _ _ hb2; omega
    · exfalso
      subst e'
      rw [Bm.set_at] at hb2; cases hb2
      rw [Bm.set_ne _ _ e] at hb1
      have hlt := hr.lt hb1
      rw [Hp.app_lt hlt] at hg1
      rcases hat with ⟨rfl, hle⟩ | h6
      · by_cases e5 : i = id
        · subst e5; rw [Hp.app_own_old] at hi; cases hi
        · rw [Hp.app_own_lt hlt e5] at hi
          rcases near i ob1 k1 hg1 hb1 with e4 | ⟨h5, h6, h7⟩
          · exact e5 e4
          · rw [hi] at h7; cases h7
      · have := hr.blk i _ _ hb1; omega
    · rw [Bm.set_ne _ _ e] at hb1
      rw [Bm.set_ne _ _ e'] at hb2
      have hlt := hr.lt hb1
      have hlt' := hr.lt hb2
      rw [Hp.app_lt hlt] at hg1
      rw [Hp.app_lt hlt'] at hg2'
      by_cases e5 : i = id
      · subst e5; rw [Hp.app_own_old] at hi; cases hi
      · rw [Hp.app_own_lt hlt e5] at hi
        rw [Hp.app_root_lt hlt, Hp.app_root_lt hlt']
        rcases hr.inj i i' ob1 ob2 b1 k1 k2 hg1 hg2' hb1 hb2 hi with h | ⟨h1, h2, h3⟩
        · exact .inl h
        · refine .inr ⟨h1, h2, ?_⟩
          by_cases e6 : i' = id
          · subst e6; exact Hp.app_own_old
          · rw [Hp.app_own_lt hlt' e6]; exact h3
  · exact Nat.le_trans hr.base hgr.size
  · intro i b1 k1 l hg1 hb1
    by_cases e : i = H.nxt
    · subst e
      rw [Hp.app_get] at hg1
      have h5 : ob' = mapOb l := Option.some.inj hg1
      rw [h5] at h0
      exact absurd h0 (by show ¬ 0 < 0; omega)
    · rw [Bm.set_ne _ _ e] at hb1
      rw [Hp.app_lt (hr.lt hb1)] at hg1
      rw [hold b1 (hr.blk i b1 k1 hb1) (hmb i b1 k1 l hg1 hb1)]
      exact hr.mp i b1 k1 l hg1 hb1
  · intro i i' b1 k1 k2 l l' hg1 hg2' hb1 hb2
    have nm : ∀ j l, j = H.nxt → (H.app id ob' (Hp.lt hg) ho).get j ≠ some (mapOb l) := by
      intro j l e h
      subst e
      rw [Hp.app_get] at h
      have h5 : ob' = mapOb l := Option.some.inj h
      rw [h5] at h0
      exact absurd h0 (by show ¬ 0 < 0; omega)
    by_cases e : i = H.nxt
    · exact absurd hg1 (nm i l e)
    · by_cases e' : i' = H.nxt
      · exact absurd hg2' (nm i' l' e')
      · rw [Bm.set_ne _ _ e] at hb1
        rw [Bm.set_ne _ _ e'] at hb2
        rw [Hp.app_lt (hr.lt hb1)] at hg1
        rw [Hp.app_lt (hr.lt hb2)] at hg2'
        exact hr.mpi i i' b1 k1 k2 l l' hg1 hg2' hb1 hb2
  · exact ⟨fun i hi => Bm.set_ne _ _ (by omega), ⟨hgr.os, hgr.tape, hgr.output, hgr.size, fun j hj => hold j (by have := hr.base; omega) (by omega)⟩, Nat.le_succ _⟩

/-- A row that has been made is given its place. -/
theorem HR.place {B : Nat} {β : Bm} {H : Hp} {w w' : World} (hr : HR B β H w) (ob : Ob) (h0 : 0 < ob.sz) {N g K : Nat} (hN : N < H.nxt) (hβ : β N = none) (hob : ∀ ob', H.get N = some ob' → ob' = ob) (hgr : w.grownBy w' none) (hat : w.heap.size ≤ g)
    {cur : Array Value} (hcur : w'.heap[g]? = some (.cells cur ob.e (0, 0))) (hK : K ≤ cur.size) (hl : ob.cs.length ≤ K) (hv : ∀ (i : Nat) (v : Value), ob.cs[i]? = some v → ∃ u, cur[i]? = some u ∧ VR β v u) :
    HR B (Bm.set β N (g, some (K, ob.sz))) H w' ∧ ∀ id p, β id = some p → (Bm.set β N (g, some (K, ob.sz))) id = some p := by
  have hmono : ∀ id p, β id = some p → (Bm.set β N (g, some (K, ob.sz))) id = some p := fun id p h => by
    rw [Bm.set_ne _ _ (fun e => by rw [e, hβ] at h; cases h)]; exact h
  have hg2 : g < w'.heap.size := (Array.getElem?_eq_some_iff.1 hcur).1
  have hold : ∀ j, j < w.heap.size → w'.heap[j]? = w.heap[j]? := fun j hj => hgr.block j hj (by simp)
  have nm : ∀ l, H.get N ≠ some (mapOb l) := by
    intro l h
    have h5 := hob _ h
    rw [← h5] at h0
    exact absurd h0 (by show ¬ 0 < 0; omega)
  refine ⟨⟨?_, ?_, ?_, ?_, ?_, ?_, ?_, ?_, ?_⟩, hmono⟩
  · intro id hi
    rw [Bm.set_ne _ _ (by omega)]
    exact hr.dom id hi
  · intro id b k hb
    by_cases e : id = N
    · subst e; rw [Bm.set_at] at hb; cases hb; exact hg2
    · rw [Bm.set_ne _ _ e] at hb
      exact Nat.lt_of_lt_of_le (hr.blk id b k hb) hgr.size
  · intro id ob' b k hg hb i v hi
    by_cases e : id = N
    · subst e
      rw [Bm.set_at] at hb; cases hb
      obtain rfl := hob ob' hg
      obtain ⟨u, h1, h2⟩ := hv i v hi
      exact ⟨u, by unfold World.cell?; rw [hcur]; exact h1, h2.mono hmono⟩
    · rw [Bm.set_ne _ _ e] at hb
      obtain ⟨u, h1, h2⟩ := hr.cell id ob' b k hg hb i v hi
      exact ⟨u, by rw [World.cell?_of_block (w := w) (hold b (hr.blk id b k hb))]; exact h1, h2.mono hmono⟩
  · intro id ob' b K1 s1 hg hb
    by_cases e : id = N
    · subst e
      rw [Bm.set_at] at hb; cases hb
      rw [hob ob' hg]; exact ⟨rfl, h0⟩
    · rw [Bm.set_ne _ _ e] at hb
      exact hr.siz id ob' b K1 s1 hg hb
  · intro id ob' b k hg hb hlo'
    by_cases e : id = N
    · subst e
      rw [Bm.set_at] at hb; cases hb
      obtain rfl := hob ob' hg
      exact ⟨Nat.le_trans hr.base hat, K, cur, rfl, hcur, hK, hl⟩
    · rw [Bm.set_ne _ _ e] at hb
      obtain ⟨h1, K1, cur1, h2, h3, h4⟩ := hr.own id ob' b k hg hb hlo'
      exact ⟨h1, K1, cur1, h2, by rw [hold b (hr.blk id b k hb)]; exact h3, h4⟩
  · intro id id' ob1 ob2 b k k' hg hg' hb hb' hlo'
    by_cases e : id = N <;> by_cases e' : id' = N
    · exact .inl (by rw [e, e'])
    · exfalso
      subst e
      rw [Bm.set_at] at hb; cases hb
      rw [Bm.set_ne _ _ e'] at hb'
      have := hr.blk id' _ _ hb'; omega
    · exfalso
      subst e'
      rw [Bm.set_at] at hb'; cases hb'
      rw [Bm.set_ne _ _ e] at hb
      have := hr.blk id _ _ hb; omega
    · rw [Bm.set_ne _ _ e] at hb
      rw [Bm.set_ne _ _ e'] at hb'
      exact hr.inj id id' ob1 ob2 b k k' hg hg' hb hb' hlo'
  · exact Nat.le_trans hr.base hgr.size
  · intro id b k l hg hb
    by_cases e : id = N
    · subst e; exact absurd hg (nm l)
    · rw [Bm.set_ne _ _ e] at hb
      rw [hold b (hr.blk id b k hb)]
      exact hr.mp id b k l hg hb
  · intro id id' b k k' l l' hg hg' hb hb'
    by_cases e : id = N
    · subst e; exact absurd hg (nm l)
    · by_cases e' : id' = N
      · subst e'; exact absurd hg' (nm l')
      · rw [Bm.set_ne _ _ e] at hb
        rw [Bm.set_ne _ _ e'] at hb'
        exact hr.mpi id id' b k k' l l' hg hg' hb hb'

/-- What is old is as it was. -/
def Calm (H H' : Hp) : Prop := H.nxt ≤ H'.nxt ∧ ∀ id, id < H.nxt → H'.get id = H.get id ∧ H'.own id = H.own id ∧ H'.root id = H.root id

theorem Calm.refl (H : Hp) : Calm H H := ⟨Nat.le_refl _, fun _ _ => ⟨rfl, rfl, rfl⟩⟩
theorem Calm.trans {H H1 H2 : Hp} (h : Calm H H1) (k : Calm H1 H2) : Calm H H2 := ⟨Nat.le_trans h.1 k.1, fun id hi => by
  obtain ⟨h1, h2, h3⟩ := h.2 id hi
  obtain ⟨k1, k2, k3⟩ := k.2 id (Nat.lt_of_lt_of_le hi h.1)
  exact ⟨k1.trans h1, k2.trans h2, k3.trans h3⟩⟩
theorem Calm.new (H : Hp) (ob : Ob) : Calm H (H.new ob) := ⟨Nat.le_succ _, fun id hi => ⟨Hp.new_lt hi, Hp.new_own_lt hi, Hp.new_root_lt hi⟩⟩

theorem HR.more {B : Nat} {β : Bm} {H H2 : Hp} {w : World} (hr : HR B β H w) (hc : Calm H H2) : HR B β H2 w := by
  refine ⟨fun id hi => hr.dom id (by have := hc.1; omega), hr.blk, fun id ob b k h1 h2 => ?_, fun id ob b K s h1 h2 => ?_, fun id ob b k h1 h2 h3 => ?_, fun id id' ob ob' b k k' h1 h2 h3 h4 h5 => ?_, hr.base, fun id b k l h1 h2 => ?_, fun id id' b k k' l l' h1 h2 h3 h4 => ?_⟩
  · rw [(hc.2 id (hr.lt h2)).1] at h1; exact hr.cell id ob b k h1 h2
  · rw [(hc.2 id (hr.lt h2)).1] at h1; exact hr.siz id ob b K s h1 h2
  · obtain ⟨e1, e2, e3⟩ := hc.2 id (hr.lt h2)
    rw [e1] at h1; rw [e2] at h3
    exact hr.own id ob b k h1 h2 h3
  · obtain ⟨e1, e2, e3⟩ := hc.2 id (hr.lt h3)
    obtain ⟨f1, f2, f3⟩ := hc.2 id' (hr.lt h4)
    rw [e1] at h1; rw [f1] at h2; rw [e2] at h5
    rw [e3, f3, f2]
    exact hr.inj id id' ob ob' b k k' h1 h2 h3 h4 h5
  · rw [(hc.2 id (hr.lt h2)).1] at h1; exact hr.mp id b k l h1 h2
  · rw [(hc.2 id (hr.lt h3)).1] at h1
    rw [(hc.2 id' (hr.lt h4)).1] at h2
    exact hr.mpi id id' b k k' l l' h1 h2 h3 h4

theorem Fr.more {B : Nat} {β0 β : Bm} {H0 H H2 : Hp} {w0 w : World} (h : Fr B β0 H0 w0 β H w) (hc : Calm H H2) : Fr B β0 H0 w0 β H2 w :=
  ⟨h.old, h.below, Nat.le_trans h.nxt hc.1⟩

/-- The place of a made row changes nothing else. -/
theorem Fr.place {B : Nat} {β0 β : Bm} {H0 H : Hp} {w0 w w' : World} (h : Fr B β0 H0 w0 β H w) (hB : B ≤ w.heap.size) {N : Nat} {g : Nat} {k : Option (Nat × Nat)} (hN : H0.nxt ≤ N) (hgr : w.grownBy w' none) : Fr B β0 H0 w0 (Bm.set β N (g, k)) H w' :=
  ⟨fun id hi => (Bm.set_ne _ _ (by omega)).trans (h.old id hi), h.below.trans ⟨hgr.os, hgr.tape, hgr.output, hgr.size, fun j hj => hgr.block j (by omega) (by simp)⟩, h.nxt⟩

/-- A new row, by a world of which its cells are known. -/
theorem HR.new_of {B : Nat} {β : Bm} {H : Hp} {w w' : World} (hr : HR B β H w) (ob : Ob) (h0 : 0 < ob.sz) {g K : Nat} (hgr : w.grownBy w' none) (hat : w.heap.size ≤ g) {cur : Array Value} (hcur : w'.heap[g]? = some (.cells cur ob.e (0, 0))) (hK : K ≤ cur.size) (hl : ob.cs.length ≤ K)
    (hv : ∀ (i : Nat) (v : Value), ob.cs[i]? = some v → ∃ u, cur[i]? = some u ∧ VR β v u) :
    HR B (Bm.set β H.nxt (g, some (K, ob.sz))) (H.new ob) w' ∧ Fr B β H w (Bm.set β H.nxt (g, some (K, ob.sz))) (H.new ob) w' := by
  have h1 := hr.more (Calm.new H ob)
  obtain ⟨h2, _⟩ := h1.place ob h0 (N := H.nxt) (Nat.lt_succ_self _) (hr.dom _ (Nat.le_refl _)) (fun ob' h => by rw [Hp.new_get] at h; cases h; rfl) hgr hat hcur hK hl hv
  exact ⟨h2, ((Fr.refl hr).more (Calm.new H ob)).place hr.base (Nat.le_refl _) hgr⟩

/-- An operation that makes a new row and asks no memory: the row, and the result as a function of its number. -/
def anew (P : Program) (o : Oper) (ρ : Operand → Value) (ob : Ob) (f : Nat → Value) : Prop :=
  0 < ob.sz ∧ ∀ (β : Bm) (a : Act) (w : World), (∀ x ∈ o.op.operands, VR β (ρ x) (a.eval x)) →
    ∃ (u : Value) (w' : World) (g K : Nat) (cur : Array Value), (execOp a.eval o).run P w = .ok (.value u) w' ∧ w.grownBy w' none ∧ w.heap.size ≤ g ∧ w'.heap[g]? = some (.cells cur ob.e (0, 0)) ∧ K ≤ cur.size ∧ ob.cs.length ≤ K ∧
      (∀ (i : Nat) (v : Value), ob.cs[i]? = some v → ∃ u, cur[i]? = some u ∧ VR β v u) ∧ ∀ (β' : Bm) (id : Nat), β' id = some (g, some (K, ob.sz)) → VR β' (f id) u

theorem anew.aev {P : Program} {o : Oper} {ρ : Operand → Value} {ob : Ob} {f : Nat → Value} (h : anew P o ρ ob f) (H : Hp) : aev P o ρ H (f H.nxt) (H.new ob) :=
  aev_intro fun B β a w hxs hr => by
    obtain ⟨u, w', g, K, cur, h1, h2, h3, h4, h5, h6, h7, h8⟩ := h.2 β a w hxs
    obtain ⟨h9, h10⟩ := hr.new_of ob h.1 h2 h3 h4 h5 h6 h7
    exact ⟨_, u, w', h1, h8 _ _ (Bm.set_at _ _ _), h9, h10⟩

theorem grown_alloc (w : World) (o : Obj) : w.grownBy (w.alloc o) none := ⟨rfl, rfl, rfl, (by show w.heap.size ≤ (w.heap.push _).size; simp), fun j hj _ => Below.heap_alloc w o j hj⟩
theorem alloc_at (w : World) (o : Obj) : (w.alloc o).heap[w.heap.size]? = some o := by show (w.heap.push _)[_]? = _; simp

section
variable {P : Program} {o : Oper} {ρ : Operand → Value} {H H' : Hp} {r : Value}

theorem cur_rel {β : Bm} {us : Array Value} {l : List Value} (hl : l.length = us.size) (h : ∀ (i : Nat) (x : Value), l[i]? = some x → VR β x (us.getD i junk)) : ∀ (i : Nat) (x : Value), l[i]? = some x → ∃ u, us[i]? = some u ∧ VR β x u := by
  intro i x hi
  have hlt : i < us.size := by rw [← hl]; exact (List.getElem?_eq_some_iff.1 hi).1
  exact ⟨us[i], by simp [hlt], by have := h i x hi; simpa [Array.getD_eq_getD_getElem?, hlt] using this⟩

theorem anew_box {t : TypeId} {x : Operand} (ho : o.op = .box t x) (hk : Value.known (ρ x) = true) (h0 : 0 < (cellsOf (ρ x)).length) :
    anew P o ρ ⟨t, (cellsOf (ρ x)).length, cellsOf (ρ x)⟩ (fun id => .pointer (some ⟨id, 0, none⟩)) := by
  refine ⟨h0, ?_⟩
  intro β a w hxs
  have h1 := hxs x (by rw [ho]; simp [Op.operands])
  obtain ⟨h2, h3⟩ := h1.cells hk
  refine ⟨.pointer (some ⟨w.heap.size, 0, none⟩), w.alloc (.cells (a.eval x).cells t), w.heap.size, (a.eval x).cells.size, (a.eval x).cells, ?_, grown_alloc _ _, Nat.le_refl _, alloc_at _ _, Nat.le_refl _, Nat.le_of_eq h2, cur_rel h2 h3, fun β' id h => .ptr h⟩
  simp [execOp, ho, Instr.box, newVar, newRow]

theorem anew_alloc {t : TypeId} {i : TypeInfo} {z : Value} (ho : o.op = .alloc t) (hi : P.info? t = some i) (hz : i.zero = some z) (hst : (cellsOf z).all Value.still = true) (h0 : 0 < (cellsOf z).length) :
    anew P o ρ ⟨t, (cellsOf z).length, cellsOf z⟩ (fun id => .pointer (some ⟨id, 0, none⟩)) := by
  refine ⟨h0, ?_⟩
  intro β a w hxs
  have hs : (cellsOf z).length = z.cells.size := by rw [← cells_eq]; simp
  have hv : ∀ (j : Nat) (v : Value), (cellsOf z)[j]? = some v → VR β v (z.cells.getD j junk) := by
    intro j v hj
    have h := known_list hst j β v hj
    rw [← cells_eq] at hj
    have hj' : z.cells[j]? = some v := by simpa using hj
    simpa [Array.getD_eq_getD_getElem?, hj'] using h
  refine ⟨.pointer (some ⟨w.heap.size, 0, none⟩), w.alloc (.cells z.cells t), w.heap.size, z.cells.size, z.cells, ?_, grown_alloc _ _, Nat.le_refl _, alloc_at _ _, Nat.le_refl _, Nat.le_of_eq hs, cur_rel hs hv, fun β' id h => .ptr h⟩
  simp [execOp, ho, Instr.alloc, newVar, newRow, zeroValue, typeInfo, hi, hz]

end
end Go.Proofs.Ytefmjpbmdoebaaa

/- The abstract machine, part 6: what stores, append, slices, make and literals come to. -/
set_option linter.unusedVariables false
set_option linter.unusedSimpArgs false
namespace Go.Proofs.Ytefmjpbmdoebaaa
open Go Go.RowKit

/-- Part of a list written over. -/
def splice {α : Type} (cs : List α) (off : Nat) (vs : List α) : List α := cs.take off ++ vs ++ cs.drop (off + vs.length)

theorem splice_length {α : Type} {cs vs : List α} {off : Nat} (h : off + vs.length ≤ cs.length) : (splice cs off vs).length = cs.length := by
  simp [splice]; omega

theorem splice_get {α : Type} {cs vs : List α} {off : Nat} (h : off + vs.length ≤ cs.length) (i : Nat) : (splice cs off vs)[i]? = if off ≤ i ∧ i < off + vs.length then vs[i - off]? else cs[i]? := by
  unfold splice
  have hl : (cs.take off).length = off := by rw [List.length_take]; omega
  rcases Nat.lt_or_ge i off with h1 | h1
  · rw [if_neg (by omega), List.append_assoc, List.getElem?_append_left (by omega), List.getElem?_take_of_lt h1]
  · rw [List.append_assoc, List.getElem?_append_right (by omega), hl]
    rcases Nat.lt_or_ge i (off + vs.length) with h2 | h2
    · rw [if_pos ⟨h1, h2⟩, List.getElem?_append_left (by omega)]
    · rw [if_neg (by omega), List.getElem?_append_right (by omega), List.getElem?_drop]
      congr 1; omega

theorem splice_one {α : Type} {cs : List α} {off : Nat} {v : α} (h : off < cs.length) : splice cs off [v] = cs.set off v := by
  apply List.ext_getElem?
  intro i
  rw [splice_get (by simp; omega), List.getElem?_set]
  by_cases e : off = i
  · subst e; rw [if_pos ⟨Nat.le_refl _, by simp⟩, if_pos rfl, if_pos h]; simp
  · rw [if_neg (by simp; omega), if_neg e]

/-- Two lists written over alike stay related. -/
theorem splice_rel {R : Value → Value → Prop} {cs vs : List Value} {us ws : List Value} {off : Nat} (h1 : ∀ (i : Nat) (v : Value), cs[i]? = some v → ∃ u, us[i]? = some u ∧ R v u) (hl : vs.length = ws.length)
    (h2 : ∀ (i : Nat) (v : Value), vs[i]? = some v → ∃ u, ws[i]? = some u ∧ R v u) (hf : off + vs.length ≤ cs.length) (hu : off + vs.length ≤ us.length) :
    ∀ (i : Nat) (v : Value), (splice cs off vs)[i]? = some v → ∃ u, (splice us off ws)[i]? = some u ∧ R v u := by
  intro i v hi
  rw [splice_get hf] at hi
  rw [splice_get (by omega)]
  split at hi
  · rename_i h
    rw [if_pos (by omega)]; exact h2 _ _ hi
  · rename_i h
    rw [if_neg (by omega)]; exact h1 _ _ hi

theorem getD_rel {β : Bm} {us : Array Value} {n : Nat} {l : List Value} (hl : l.length = us.size) (h : ∀ (i : Nat) (x : Value), l[i]? = some x → VR β x (us.getD i junk)) : ∀ (i : Nat) (x : Value), l[i]? = some x → ∃ u, us[i]? = some u ∧ VR β x u := by
  intro i x hi
  have hlt : i < us.size := by rw [← hl]; exact (List.getElem?_eq_some_iff.1 hi).1
  exact ⟨us[i], by simp [hlt], by have := h i x hi; simpa [Array.getD_eq_getD_getElem?, hlt] using this⟩

theorem one_known {v : Value} (h : (cellsOf v).all Value.one = true) : Value.known v = true := by
  unfold Value.known
  split
  · rfl
  · rename_i hv
    unfold cellsOf at h
    split at h
    · rename_i xs; exact absurd rfl (hv xs)
    · simpa using h

/-- What is read of a row, in the world. -/
theorem HR.read {B : Nat} {β : Bm} {H : Hp} {w : World} (hr : HR B β H w) {id b off : Nat} {k} {ob : Ob} (hg : H.get id = some ob) (hb : β id = some (b, k)) (cs : List Value) (hc : ∀ (j : Nat) (v : Value), cs[j]? = some v → ob.cs[off + j]? = some v) :
    ∃ us : List Value, us.length = cs.length ∧ (∀ (j : Nat) (u : Value), us[j]? = some u → w.cell? ((⟨b, off, none⟩ : Addr).add j) = some u) ∧ ∀ (j : Nat) (v : Value), cs[j]? = some v → ∃ u, us[j]? = some u ∧ VR β v u := by
  have h : ∀ j, ∃ u, j < cs.length → w.cell? ⟨b, off + j, none⟩ = some u ∧ VR β (cs.getD j junk) u := by
    intro j
    by_cases hj : j < cs.length
    · obtain ⟨u, h2, h3⟩ := hr.cell id ob b k hg hb (off + j) _ (hc j cs[j] (List.getElem?_eq_getElem hj))
      exact ⟨u, fun _ => ⟨h2, by simpa [List.getD_eq_getElem?_getD, hj] using h3⟩⟩
    · exact ⟨junk, fun h => absurd h hj⟩
  obtain ⟨f, hf⟩ : ∃ f : Nat → Value, ∀ j, j < cs.length → w.cell? ⟨b, off + j, none⟩ = some (f j) ∧ VR β (cs.getD j junk) (f j) := ⟨fun j => Classical.choose (h j), fun j => Classical.choose_spec (h j)⟩
  refine ⟨(List.range cs.length).map f, by simp, ?_, ?_⟩
  · intro j u hj
    have hlt : j < cs.length := by
      have := (List.getElem?_eq_some_iff.1 hj).1
      simpa using this
    have e : ((List.range cs.length).map f)[j]? = some (f j) := by simp [hlt]
    rw [e] at hj
    injection hj with hj
    rw [Addr.add_lit, ← hj]
    exact (hf j hlt).1
  · intro j v hj
    have hlt := (List.getElem?_eq_some_iff.1 hj).1
    refine ⟨f j, by simp [hlt], ?_⟩
    have := (hf j hlt).2
    simpa [List.getD_eq_getElem?_getD, hj] using this

theorem rel_one {β : Bm} {cs us : List Value} (h1 : cs.all Value.one = true) (hl : us.length = cs.length) (h : ∀ (j : Nat) (v : Value), cs[j]? = some v → ∃ u, us[j]? = some u ∧ VR β v u) : ∀ u ∈ us, u.oneCell' = true := by
  intro u hu
  obtain ⟨j, hj, rfl⟩ := List.mem_iff_getElem.1 hu
  have hlt : j < cs.length := by omega
  obtain ⟨u', h2, h3⟩ := h j cs[j] (List.getElem?_eq_getElem hlt)
  rw [List.getElem?_eq_getElem hj] at h2
  injection h2 with h2
  subst h2
  rw [List.all_eq_true] at h1
  exact VR.one (h1 _ (List.getElem_mem hlt)) h3

section
variable {P : Program} {o : Oper} {ρ : Operand → Value} {H H' : Hp} {r : Value}

theorem aev_store {t : TypeId} {x y : Operand} {id off : Nat} {ob : Ob} {i : TypeInfo} (ho : o.op = .store t x y) (hi : P.info? t = some i) (hn : i.size = (cellsOf (ρ y)).length) (h1 : (cellsOf (ρ y)).all Value.one = true)
    (hx : ρ x = .pointer (some ⟨id, off, none⟩)) (hg : H.get id = some ob) (hlo : H.own id = true) (hfit : off + (cellsOf (ρ y)).length ≤ ob.cs.length) :
    aev P o ρ H undef (H.upd id ⟨ob.e, ob.sz, splice ob.cs off (cellsOf (ρ y))⟩ (Hp.lt hg)) := by
  intro B β a w hxs hr next Q hnx
  have g1 := hxs x (by rw [ho]; simp [Op.operands])
  have g2 := hxs y (by rw [ho]; simp [Op.operands])
  rw [hx] at g1
  obtain ⟨c1, c2⟩ := g2.cells (one_known h1)
  generalize he : a.eval x = u at g1
  cases g1 with
  | ptr hb =>
    rename_i b k
    obtain ⟨hB, K, cur, hk, hc, hK, hl⟩ := hr.own id ob b k hg hb hlo
    have hcl : (a.eval y).cells.toList.length = (cellsOf (ρ y)).length := by simp [c1]
    have hrel := getD_rel (n := 0) c1 c2
    have hone := rel_one (us := (a.eval y).cells.toList) h1 hcl (by simpa using hrel)
    have hcell : ∀ (j : Nat) (v : Value), ob.cs[j]? = some v → ∃ u, cur.toList[j]? = some u ∧ VR β v u := by
      intro j v hj
      obtain ⟨u, h2, h3⟩ := hr.cell id ob b k hg hb j v hj
      refine ⟨u, ?_, h3⟩
      unfold World.cell? at h2
      rw [hc] at h2
      simpa using h2
    have hst := run_storeCells_at P b off ob.e (a.eval y).cells.toList 0 cur w hc (by rw [hcl]; omega) hone
    simp only [Nat.add_zero] at hst
    have hsp : (cur.toList.take off ++ (a.eval y).cells.toList ++ cur.toList.drop (off + (a.eval y).cells.toList.length)) = splice cur.toList off (a.eval y).cells.toList := rfl
    rw [hsp] at hst
    obtain ⟨h3, h4⟩ := hr.upd (w' := w.setRow b (splice cur.toList off (a.eval y).cells.toList).toArray) (ob' := ⟨ob.e, ob.sz, splice ob.cs off (cellsOf (ρ y))⟩) hg hb hlo (Hp.lt hg) rfl rfl (Nat.le_of_eq (splice_length hfit)) (by simp) (by simp) (by simp) (by simp)
      (fun j hj => setRow_other w b j _ hj) (setRow_heap w b cur _ ob.e _ hc)
      (fun K' sz h => by
        rw [hk] at h; cases h
        have : (splice cur.toList off (a.eval y).cells.toList).length = cur.toList.length := splice_length (by rw [hcl]; simp; omega)
        simp [this]; exact hK)
      (by
        have := splice_rel (off := off) hcell hcl.symm (by simpa using hrel) hfit (by simp; omega)
        simpa using this)
    have hrun : (execOp a.eval o).run P w = .ok .skip (w.setRow b (splice cur.toList off (a.eval y).cells.toList).toArray) := by
      simp [execOp, ho, he, Instr.storeAt, Instr.sureAddr, storeVar, sizeOf, typeInfo, hi, hn, c1, hst]
    unfold Oper.wp
    rw [hrun]
    exact hnx β undef _ VR.undef h3 h4

theorem lenOf_slice (p : Option Addr) (n c : Nat) (w : World) : (Builtin.lenOf (.slice p n c)).run P w = .ok n w := by simp [Builtin.lenOf]

/-- append(x, y...), x a row of the call's own. -/
theorem aev_append {t e : TypeId} {x y : Operand} {id n id2 off2 m : Nat} {ob ob2 : Ob} {news : List Value} {i : TypeInfo} {z : Value} {ts : Array TypeId} (ho : o.op = .call { callee := .builtin .append, args := #[x, y], argTypes := ts }) (hts : ts = #[t, t])
    (ht : P.underlying t = some (.slice e)) (hi : P.info? e = some i) (hz : i.zero = some z) (hx : ρ x = .slice (some ⟨id, 0, none⟩) n n) (hg : H.get id = some ob) (hlo : H.own id = true) (hoe : ob.e = e) (hos : ob.sz = i.size) (hfit : n * i.size = ob.cs.length)
    (hy : ρ y = .slice (some ⟨id2, off2, none⟩) m m) (hg2 : H.get id2 = some ob2) (hl : news.length = m * i.size) (hn : ∀ (j : Nat) (v : Value), news[j]? = some v → ob2.cs[off2 + j]? = some v) (h1 : news.all Value.one = true)
    (hzs : (cellsOf z).length = i.size) (hby : (n + m) * i.bytes ≤ 140737488355328) (h63 : n + m ≤ maxLen) (h0 : 0 < i.size) :
    aev P o ρ H (.slice (some ⟨H.nxt, 0, none⟩) (n + m) (n + m)) (H.app id ⟨e, i.size, ob.cs.take (n * i.size) ++ news⟩ (Hp.lt hg) hlo) :=
  aev_intro fun B β a w hxs hr => by
    have g1 := hxs x (by rw [ho]; simp [Op.operands, Call.operands])
    have g2 := hxs y (by rw [ho]; simp [Op.operands, Call.operands])
    rw [hx] at g1
    rw [hy] at g2
    subst hts hoe
    generalize he : a.eval x = u at g1
    generalize he2 : a.eval y = u2 at g2
    cases g1 with
    | slice hb hof hlc hm hk =>
      rename_i off' b k c
      obtain rfl : off' = 0 := by omega
      cases g2 with
      | slice hb2 hof2 hlc2 hm2 hk2 =>
        rename_i off2' b2 k2 c2
        obtain ⟨hB, K, cur, hkk, hc, hK, hlK⟩ := hr.own id ob b k hg hb hlo
        obtain ⟨us, u1, u2, u3⟩ := hr.read hg2 hb2 news hn
        have u2' : ∀ (j : Nat) (u : Value), us[j]? = some u → w.cell? ((⟨b2, off2', none⟩ : Addr).add j) = some u := by
          rcases hof2 with h | ⟨h, _⟩
          · rw [h]; exact u2
          · intro j u hj
            have := (List.getElem?_eq_some_iff.1 hj).1
            rw [u1, hl, h] at this; omega
        have hone := rel_one h1 u1 u3
        have hul : us.length = m * i.size := by rw [u1, hl]
        have hcell : ∀ (j : Nat) (v : Value), ob.cs[j]? = some v → ∃ u, cur.toList[j]? = some u ∧ VR β v u := by
          intro j v hj
          obtain ⟨u, h2, h3⟩ := hr.cell id ob b k hg hb j v hj
          refine ⟨u, ?_, h3⟩
          unfold World.cell? at h2
          rw [hc] at h2
          simpa using h2
        have hcK : c * i.size ≤ cur.size := by
          have := hk K ob.sz hkk
          rw [hos] at this; omega
        have hncur : n * i.size ≤ cur.size := Nat.le_trans (Nat.mul_le_mul_right _ hlc) hcK
        have hcs : ∀ (j : Nat) (v : Value), (ob.cs.take (n * i.size) ++ news)[j]? = some v → ∃ u, (cur.toList.take (n * i.size) ++ us)[j]? = some u ∧ VR β v u := by
          intro j v hj
          have e1 : (ob.cs.take (n * i.size)).length = n * i.size := by rw [List.length_take]; omega
          have e2 : (cur.toList.take (n * i.size)).length = n * i.size := by rw [List.length_take]; simp; omega
          rcases Nat.lt_or_ge j (n * i.size) with h | h
          · rw [List.getElem?_append_left (by omega), List.getElem?_take_of_lt h] at hj
            rw [List.getElem?_append_left (by omega), List.getElem?_take_of_lt h]
            exact hcell j v hj
          · rw [List.getElem?_append_right (by omega), e1] at hj
            rw [List.getElem?_append_right (by omega), e2]
            exact u3 _ v hj
        have hlen : (ob.cs.take (n * i.size) ++ news).length = (n + m) * i.size := by rw [List.length_append, List.length_take, hl, Nat.add_mul]; omega
        by_cases hroom : n + m ≤ c
        · have hfit2 : n * i.size + us.length ≤ cur.size := by
            rw [hul, ← Nat.add_mul]; exact Nat.le_trans (Nat.mul_le_mul_right _ hroom) hcK
          have hrun := run_append_room (P := P) w t o.type ob.e i ht hi b n c cur hc ⟨b2, off2', none⟩ m c2 us hul u2' hone hroom hfit2
          obtain ⟨h3, h4⟩ := hr.app (w' := w.setRow b (cur.toList.take (n * i.size) ++ us ++ cur.toList.drop (n * i.size + us.length)).toArray) (g := b) (K := K) (ob' := ⟨ob.e, i.size, ob.cs.take (n * i.size) ++ news⟩) hg hb hlo
            ⟨rfl, rfl, rfl, by simp, fun j _ hj => setRow_other w b j _ (fun e' => hj (by rw [e']))⟩ (.inl ⟨rfl, by show _ ≤ (ob.cs.take (n * i.size) ++ news).length; rw [hlen, ← hfit, Nat.add_mul]; omega⟩) (setRow_heap w b cur _ ob.e _ hc) (by simp; omega)
            (by
              have := hk K ob.sz hkk
              rw [hos] at this
              show (ob.cs.take (n * i.size) ++ news).length ≤ K
              rw [hlen]
              exact Nat.le_trans (Nat.mul_le_mul_right _ hroom) (by omega))
            (fun j v hj => by
              obtain ⟨u, h5, h6⟩ := hcs j v hj
              have hlt := (List.getElem?_eq_some_iff.1 h5).1
              exact ⟨u, by rw [List.getElem?_toArray, List.getElem?_append_left hlt]; exact h5, h6⟩)
            (fun j hj => by
              unfold World.cell?
              rw [setRow_heap w b cur _ ob.e _ hc, hc]
              have : j < (cur.toList.take (n * i.size)).length := by rw [List.length_take]; simp; omega
              show (_ : Array Value)[j]? = cur[j]?
              rw [List.getElem?_toArray, List.append_assoc, List.getElem?_append_left this, List.getElem?_take_of_lt (by omega)]
              simp) h0
          refine ⟨_, .slice (some ⟨b, 0, none⟩) (n + m) c, _, ?_, .slice (Bm.set_at _ _ _) (.inl rfl) hroom hm ?_, h3, h4⟩
          · simp [execOp, ho, resolve, invoke, builtin, he, he2, hrun]
          · intro K' sz h
            cases h
            have := hk K ob.sz hkk
            rw [hos] at this; exact this
        · have holds : ∀ (j : Nat) (u : Value), (cur.toList.take (n * i.size))[j]? = some u → w.cell? ((⟨b, 0, none⟩ : Addr).add j) = some u := by
            intro j u hj
            rw [Addr.add_lit, Nat.zero_add]
            unfold World.cell?
            rw [hc]
            rw [List.getElem?_take] at hj
            split at hj
            · simpa using hj
            · cases hj
          have hrun := run_append_grow (P := P) w t o.type ob.e i z ht hi hz ⟨b, 0, none⟩ n c (cur.toList.take (n * i.size)) (by rw [List.length_take]; simp; omega) holds ⟨b2, off2', none⟩ m c2 us hul u2' (by omega) (by simp only [maxLen] at h63; omega) (growslice_fits (by omega) hby)
          have hge := grownCap_ge w (n + m) c ob.e
          have hml := grownCap_le_maxLen w (n + m) c ob.e h63
          generalize hN : ((cur.toList.take (n * i.size)).toArray ++ us.toArray ++ Builtin.zeroCells z.cells (grownCap w (n + m) c ob.e - (n + m))) = N at hrun
          have hNl : (n + m) * i.size ≤ N.size := by
            rw [← hN]
            simp only [Array.size_append, List.size_toArray, List.length_take, Array.length_toList, hul, Nat.add_mul]
            omega
          have hsize : ∀ K0 sz, some ((N.size, i.size) : Nat × Nat) = some (K0, sz) → 0 + (n + m) * sz ≤ K0 := by
            intro K0 sz h; cases h; omega
          obtain ⟨h3, h4⟩ := hr.app (w' := w.drew.alloc (.cells N ob.e)) (g := w.heap.size) (K := N.size) (ob' := ⟨ob.e, i.size, ob.cs.take (n * i.size) ++ news⟩) (cur := N) hg hb hlo
            ⟨rfl, rfl, rfl, (by show w.heap.size ≤ (w.heap.push _).size; simp), fun j hj _ => Below.heap_alloc w.drew _ j hj⟩ (.inr ⟨Nat.le_refl _, by show w.heap.size < (w.heap.push _).size; simp⟩)
            (by show (w.heap.push _)[_]? = _; simp) (Nat.le_refl _) (by show (ob.cs.take (n * i.size) ++ news).length ≤ _; rw [hlen]; exact hNl)
            (fun j v hj => by
              obtain ⟨u, h5, h6⟩ := hcs j v hj
              have hlt := (List.getElem?_eq_some_iff.1 h5).1
              refine ⟨u, ?_, h6⟩
              rw [← hN]
              have : ((cur.toList.take (n * i.size)).toArray ++ us.toArray) = (cur.toList.take (n * i.size) ++ us).toArray := by simp
              rw [this, Array.getElem?_append_left (by simpa using hlt)]
              simpa using h5)
            (fun j _ => World.cell?_of_block (w := w) (Below.heap_alloc w.drew _ b (hr.blk id b k hb))) h0
          refine ⟨_, .slice (some ⟨w.heap.size, 0, none⟩) (n + m) (grownCap w (n + m) c ob.e), _, ?_, .slice (Bm.set_at _ _ _) (.inl rfl) hge hml ?_, h3, h4⟩
          · simp [execOp, ho, resolve, invoke, builtin, he, he2, hrun]
          · intro K' sz h
            cases h
            rw [← hN]
            have hz1 : z.cells.size = i.size := by rw [← hzs, ← cells_eq]; simp
            have e1 : (cur.toList.take (n * i.size)).length = n * i.size := by rw [List.length_take]; simp; omega
            simp only [Array.size_append, List.size_toArray, e1, hul, size_zeroCells, hz1, ← Nat.add_mul]
            rw [Nat.zero_add]
            exact Nat.mul_le_mul_right _ (by omega)

/-- append(nil, y...). -/
theorem aev_append_nil {t e : TypeId} {x y : Operand} {id2 off2 m : Nat} {ob2 : Ob} {news : List Value} {i : TypeInfo} {z : Value} {ts : Array TypeId} (ho : o.op = .call { callee := .builtin .append, args := #[x, y], argTypes := ts }) (hts : ts = #[t, t])
    (ht : P.underlying t = some (.slice e)) (hi : P.info? e = some i) (hz : i.zero = some z) (hx : ρ x = .slice none 0 0)
    (hy : ρ y = .slice (some ⟨id2, off2, none⟩) m m) (hm0 : 0 < m) (hg2 : H.get id2 = some ob2) (hl : news.length = m * i.size) (hn : ∀ (j : Nat) (v : Value), news[j]? = some v → ob2.cs[off2 + j]? = some v)
    (hzs : (cellsOf z).length = i.size) (hby : m * i.bytes ≤ 140737488355328) (h63 : m ≤ maxLen) (h0 : 0 < i.size) :
    aev P o ρ H (.slice (some ⟨H.nxt, 0, none⟩) m m) (H.new ⟨e, i.size, news⟩) :=
  aev_intro fun B β a w hxs hr => by
    have g1 := hxs x (by rw [ho]; simp [Op.operands, Call.operands])
    have g2 := hxs y (by rw [ho]; simp [Op.operands, Call.operands])
    rw [hx] at g1
    rw [hy] at g2
    subst hts
    have he := VR.still_eq rfl g1
    generalize he2 : a.eval y = u2 at g2
    cases g2 with
    | slice hb2 hof2 hlc2 hm2 hk2 =>
      rename_i off2' b2 k2 c2
      obtain rfl : off2' = off2 := by omega
      obtain ⟨us, u1, u2, u3⟩ := hr.read hg2 hb2 news hn
      have hul : us.length = m * i.size := by rw [u1, hl]
      have hrun := run_append_nil (P := P) w t o.type e i z ht hi hz ⟨b2, off2', none⟩ m c2 us hul u2 hm0 (by simp only [maxLen] at h63; omega) (by omega)
      have hge := grownCap_ge w m 0 e
      have hml := grownCap_le_maxLen w m 0 e h63
      generalize hN : (us.toArray ++ Builtin.zeroCells z.cells (grownCap w m 0 e - m)) = N at hrun
      have hNl : m * i.size ≤ N.size := by
        rw [← hN]
        simp only [Array.size_append, List.size_toArray, hul]
        omega
      obtain ⟨h3, h4⟩ := hr.new_of (w' := w.drew.alloc (.cells N e)) (g := w.heap.size) (K := N.size) ⟨e, i.size, news⟩ h0 (cur := N)
        ⟨rfl, rfl, rfl, (by show w.heap.size ≤ (w.heap.push _).size; simp), fun j hj _ => Below.heap_alloc w.drew _ j hj⟩ (Nat.le_refl _)
        (by show (w.heap.push _)[_]? = _; simp) (Nat.le_refl _) (by show news.length ≤ _; rw [hl]; exact hNl)
        (fun j v hj => by
          obtain ⟨u, h5, h6⟩ := u3 j v hj
          have hlt := (List.getElem?_eq_some_iff.1 h5).1
          refine ⟨u, ?_, h6⟩
          rw [← hN, Array.getElem?_append_left (by simpa using hlt)]
          simpa using h5)
      refine ⟨_, .slice (some ⟨w.heap.size, 0, none⟩) m (grownCap w m 0 e), _, ?_, .slice (Bm.set_at _ _ _) (.inl rfl) hge hml ?_, h3, h4⟩
      · simp [execOp, ho, resolve, invoke, builtin, he, he2, hrun]
      · intro K' sz h
        cases h
        rw [← hN]
        have hz1 : z.cells.size = i.size := by rw [← hzs, ← cells_eq]; simp
        simp only [Array.size_append, List.size_toArray, hul, size_zeroCells, hz1, ← Nat.add_mul]
        rw [Nat.zero_add]
        exact Nat.mul_le_mul_right _ (by omega)

/-- append(x, y...), y of no element: x. -/
theorem aev_append_none {t e : TypeId} {x y : Operand} {q : Option Addr} {i : TypeInfo} {ts : Array TypeId} (ho : o.op = .call { callee := .builtin .append, args := #[x, y], argTypes := ts }) (hts : ts = #[t, t])
    (ht : P.underlying t = some (.slice e)) (hi : P.info? e = some i) {p : Option Addr} {n : Nat} (hx : ρ x = .slice p n n) (hy : ρ y = .slice q 0 0) :
    aev P o ρ H (.slice p n n) H :=
  aev_pure fun β a hxs => by
    have g1 := hxs x (by rw [ho]; simp [Op.operands, Call.operands])
    have g2 := hxs y (by rw [ho]; simp [Op.operands, Call.operands])
    rw [hx] at g1
    rw [hy] at g2
    subst hts
    refine ⟨a.eval x, g1, fun w => ?_⟩
    generalize he : a.eval x = u at g1
    generalize he2 : a.eval y = u2 at g2
    obtain ⟨p1, c1, e1, hlc⟩ : ∃ p1 c1, u = .slice p1 n c1 ∧ n ≤ c1 := by
      cases g1 with
      | nilslice => exact ⟨none, 0, rfl, Nat.le_refl _⟩
      | emp a1 c1 hm1 => exact ⟨_, _, rfl, Nat.zero_le _⟩
      | slice hb hof hlc hm hk => exact ⟨_, _, rfl, hlc⟩
    obtain ⟨p2, c2, e2⟩ : ∃ p2 c2, u2 = .slice p2 0 c2 := by
      cases g2 with
      | nilslice => exact ⟨none, 0, rfl⟩
      | emp a1 c1 hm1 => exact ⟨_, _, rfl⟩
      | slice hb hof hlc hm hk => exact ⟨_, _, rfl⟩
    subst e1 e2
    have hnil : p1 = none → c1 = 0 := fun e => by subst e; cases g1; rfl
    cases p1 with
    | none =>
      have hc0 := hnil rfl
      subst hc0
      have hn0 : n = 0 := by omega
      subst hn0
      cases p2 <;> simp [execOp, ho, resolve, invoke, builtin, he, he2, Builtin.append_, run_underlying ht, sizeOf, typeInfo, hi, Builtin.lenOf, Builtin.firstCells, loadCells, loadCellsFrom, storeCells]
    | some q1 =>
      cases p2 <;> simp [execOp, ho, resolve, invoke, builtin, he, he2, Builtin.append_, run_underlying ht, sizeOf, typeInfo, hi, Builtin.lenOf, Builtin.firstCells, loadCells, loadCellsFrom, storeCells, hlc]

/-- The cells of n zero values. -/
def zrow (zs : List Value) (n : Nat) : List Value := (List.range (n * zs.length)).map fun j => zs.getD (j % zs.length) undef
theorem zrow_length (zs : List Value) (n : Nat) : (zrow zs n).length = n * zs.length := by simp [zrow]
theorem zrow_one (z : Value) (n : Nat) : zrow [z] n = List.replicate n z := by
  apply List.ext_getElem?
  intro j
  simp only [zrow, List.length_singleton, Nat.mul_one, Nat.mod_one]
  by_cases h : j < n
  · simp [h]
  · simp [h]

theorem anew_make {t e : TypeId} {x y : Operand} {k1 k2 : IntKind} {n : Nat} {i : TypeInfo} {z : Value} (ho : o.op = .makeSlice t x y) (ht : P.underlying t = some (.slice e)) (hi : P.info? e = some i) (hz : i.zero = some z)
    (hzs : (cellsOf z).length = i.size) (hst : (cellsOf z).all Value.still = true) (hx : ρ x = .int k1 n) (hy : ρ y = .int k2 n) (hn : n * i.size ≤ 16777216) (hby : i.bytes * n ≤ 281474976710656) (h63 : n ≤ maxLen) (h0 : 0 < i.size) :
    anew P o ρ ⟨e, i.size, zrow (cellsOf z) n⟩ (fun id => .slice (some ⟨id, 0, none⟩) n n) := by
    refine ⟨h0, ?_⟩
    intro β a w hxs
    have g1 := hxs x (by rw [ho]; simp [Op.operands])
    have g2 := hxs y (by rw [ho]; simp [Op.operands])
    rw [hx] at g1
    rw [hy] at g2
    have he := VR.still_eq rfl g1
    have he2 := VR.still_eq rfl g2
    obtain ⟨w', hrun, hown, hgr⟩ := run_makeSlice_full (P := P) w w.heap.size t e i z i.size ht hi hz rfl k1 k2 n hn hby h63 (Nat.le_refl _)
    rcases hown.2 with ⟨h, _⟩ | ⟨g, cap, cur, hv, hbg, hg, hnc, hcm, hcs, htake⟩
    · cases h
    · cases hv
      have hsz : cur.toList.length = n * i.size := by simpa using hcs
      have hcur : cur.toList = (madeCells z.cells (n * i.size)).toList := by rw [← htake, List.take_of_length_le (by omega)]
      have hzr : ∀ (j : Nat) (v : Value), (zrow (cellsOf z) n)[j]? = some v → ∃ u, cur[j]? = some u ∧ VR β v u := by
        intro j v hj
        have hlt : j < n * i.size := by
          have := (List.getElem?_eq_some_iff.1 hj).1
          rwa [zrow_length, hzs] at this
        have hpos : 0 < i.size := by
          rcases Nat.eq_zero_or_pos i.size with h0 | h0
          · rw [h0] at hlt; simp at hlt
          · exact h0
        have hz1 : z.cells.size = i.size := by rw [← hzs, ← cells_eq]; simp
        have hmod : j % i.size < i.size := Nat.mod_lt _ hpos
        have e1 : (zrow (cellsOf z) n)[j]? = some ((cellsOf z).getD (j % (cellsOf z).length) undef) := by
          unfold zrow
          simp [hzs, hlt]
        rw [e1] at hj
        injection hj with hj
        have e2 : cur[j]? = some (z.cells[j % z.cells.size]!) := by
          have : cur.toList[j]? = some (z.cells[j % z.cells.size]!) := by
            rw [hcur]; simp [madeCells, hlt]
          simpa using this
        refine ⟨_, e2, ?_⟩
        have e3 : (cellsOf z)[j % i.size]? = some v := by
          rw [← hj, hzs, List.getD_eq_getElem?_getD, List.getElem?_eq_getElem (by omega)]; rfl
        have e4 : z.cells[j % z.cells.size]! = v := by
          rw [← cells_eq] at e3
          have e5 : z.cells[j % i.size]? = some v := by simpa using e3
          rw [hz1]
          simp [getElem!_def, e5]
        rw [e4]
        exact known_list hst _ β v e3
      refine ⟨.slice (some ⟨w.heap.size, 0, none⟩) n n, w', w.heap.size, cur.size, cur, ?_, hgr, Nat.le_refl _, hg, Nat.le_refl _, ?_, hzr, fun β' id h => .slice h (.inl rfl) (Nat.le_refl _) h63 fun K sz h' => ?_⟩
      · simp [execOp, ho, he, he2, hrun]
      · show (zrow (cellsOf z) n).length ≤ _
        rw [zrow_length, hzs]; simp at hsz; omega
      · cases h'
        show 0 + n * i.size ≤ cur.size
        rw [hcs]; omega

end
end Go.Proofs.Ytefmjpbmdoebaaa

/- The abstract machine, part 7: cuts, literals, calls. -/
set_option linter.unusedVariables false
set_option linter.unusedSimpArgs false
namespace Go.Proofs.Ytefmjpbmdoebaaa
open Go Go.RowKit

section
variable {P : Program} {o : Oper} {ρ : Operand → Value} {H H' : Hp} {r : Value}

theorem VR.cut {β : Bm} {id off n l h sz : Nat} {u : Value} (hv : VR β (.slice (some ⟨id, off, none⟩) n n) u) (h1 : l ≤ h) (h2 : h ≤ n) (hz : ∀ b K s, β id = some (b, some (K, s)) → s = sz) :
    ∃ p c, u = .slice (some p) n c ∧ n ≤ c ∧ VR β (.slice (some ⟨id, off + l * sz, none⟩) (h - l) (h - l)) (.slice (if c = l then some p else some (p.add (l * sz))) (h - l) (c - l)) := by
  cases hv with
  | slice hb hof hlc hm hk =>
    rename_i off' b k c
    refine ⟨_, _, rfl, hlc, ?_⟩
    by_cases e : c = l
    · rw [if_pos e]
      have hhl : h - l = 0 := by omega
      have hcl : c - l = 0 := by omega
      rw [hhl, hcl]
      by_cases hz0 : off + l * sz = off'
      · refine .slice hb (.inl hz0.symm) (Nat.le_refl _) (by simp) fun K s h => ?_
        have := hk K s h; omega
      · rcases Nat.eq_zero_or_pos (off + l * sz) with h0 | h0
        · have : off' = 0 := by omega
          omega
        · exact .slice hb (.inr ⟨rfl, by omega⟩) (Nat.le_refl _) (by simp) fun K s h => by have := hk K s h; omega
    · rw [if_neg e]
      rw [Addr.add_lit]
      refine .slice hb ?_ (by omega) (by omega) fun K s h => ?_
      · rcases hof with h3 | ⟨h3, h4⟩
        · exact .inl (by rw [h3])
        · exact .inr ⟨by omega, by omega⟩
      · have h3 := hk K s h
        have h4 := hz b K s (by rw [hb, h])
        subst h4
        have h5 : (c - l) * s + l * s = c * s := by rw [← Nat.add_mul]; congr 1; omega
        omega

theorem arr_at {xs : Array Value} {i : Nat} {v : Value} (h : xs[i]? = some v) : xs.getD i junk = v := by rw [Array.getD_eq_getD_getElem?, h]; rfl
theorem arr_get {xs : Array Value} {i : Nat} (h : i < xs.size) : xs[i]? = some (xs.getD i junk) := by rw [Array.getD_eq_getD_getElem?, Array.getElem?_eq_getElem h]; rfl

theorem cut_size {B : Nat} {β : Bm} {w : World} (hr : HR B β H w) {id : Nat} {ob : Ob} {sz : Nat} (hg : H.get id = some ob) (hs : ob.sz = sz ∨ ob.sz = 0) : ∀ b K s, β id = some (b, some (K, s)) → s = sz :=
  fun b K s h => by
    obtain ⟨h1, h2⟩ := hr.siz id ob b K s hg h
    rcases hs with h3 | h3
    · exact h1.trans h3
    · omega

/-- x[l:h] -/
theorem aev_slice {t e : TypeId} {x y1 y2 : Operand} {k1 k2 : IntKind} {l h : Int} {id off n : Nat} {ob : Ob} {i : TypeInfo} (ho : o.op = .slice t x (some y1) (some y2) none) (ht : P.underlying t = some (.slice e)) (hi : P.info? e = some i)
    (hx : ρ x = .slice (some ⟨id, off, none⟩) n n) (hy1 : ρ y1 = .int k1 l) (hy2 : ρ y2 = .int k2 h) (hg : H.get id = some ob) (hs : ob.sz = i.size ∨ ob.sz = 0) (h0 : 0 ≤ l) (h1 : l ≤ h) (h2 : h ≤ n) :
    aev P o ρ H (.slice (some ⟨id, off + l.toNat * i.size, none⟩) (h.toNat - l.toNat) (h.toNat - l.toNat)) H :=
  aev_intro fun B β a w hxs hr => by
    have g1 := hxs x (by rw [ho]; simp [Op.operands])
    have g2 := hxs y1 (by rw [ho]; simp [Op.operands])
    have g3 := hxs y2 (by rw [ho]; simp [Op.operands])
    rw [hx] at g1
    rw [hy1] at g2
    rw [hy2] at g3
    have e2 := VR.still_eq rfl g2
    have e3 := VR.still_eq rfl g3
    obtain ⟨p, c, e1, hc, hv⟩ := g1.cut (l := l.toNat) (h := h.toNat) (by omega) (by omega) (cut_size hr hg hs)
    have hel : P.elem t = e := by simp [Program.elem, ht]
    have hu : P.underlying t = some (.slice (P.elem t)) := by rw [hel]; exact ht
    refine ⟨β, _, w, ?_, hv, hr, Fr.refl hr⟩
    simp [execOp, ho, e1, e2, e3, run_sliceAt_slice _ t _ _ _ _ hu, run_slice_lh w t (some p) n c hu k1 k2 l h h0 h1 (by omega), hel, sizeOf, typeInfo, hi, sliced]

/-- x[:h] -/
theorem aev_slice_h {t e : TypeId} {x y2 : Operand} {k2 : IntKind} {h : Int} {id off n : Nat} {ob : Ob} {i : TypeInfo} (ho : o.op = .slice t x none (some y2) none) (ht : P.underlying t = some (.slice e)) (hi : P.info? e = some i)
    (hx : ρ x = .slice (some ⟨id, off, none⟩) n n) (hy2 : ρ y2 = .int k2 h) (hg : H.get id = some ob) (hs : ob.sz = i.size ∨ ob.sz = 0) (h1 : 0 ≤ h) (h2 : h ≤ n) :
    aev P o ρ H (.slice (some ⟨id, off, none⟩) h.toNat h.toNat) H :=
  aev_intro fun B β a w hxs hr => by
    have g1 := hxs x (by rw [ho]; simp [Op.operands])
    have g3 := hxs y2 (by rw [ho]; simp [Op.operands])
    rw [hx] at g1
    rw [hy2] at g3
    have e3 := VR.still_eq rfl g3
    obtain ⟨p, c, e1, hc, hv⟩ := g1.cut (l := 0) (h := h.toNat) (by omega) (by omega) (cut_size hr hg hs)
    have hel : P.elem t = e := by simp [Program.elem, ht]
    have hu : P.underlying t = some (.slice (P.elem t)) := by rw [hel]; exact ht
    rw [Nat.zero_mul, Nat.add_zero, Nat.sub_zero] at hv
    refine ⟨β, _, w, ?_, hv, hr, Fr.refl hr⟩
    simp [execOp, ho, e1, e3, run_sliceAt_slice _ t _ _ _ _ hu, run_slice_h w t (some p) n c hu k2 h h1 (by omega), hel, sizeOf, typeInfo, hi, sliced]

/-- x[l:] -/
theorem aev_slice_l {t e : TypeId} {x y1 : Operand} {k1 : IntKind} {l : Int} {id off n : Nat} {ob : Ob} {i : TypeInfo} (ho : o.op = .slice t x (some y1) none none) (ht : P.underlying t = some (.slice e)) (hi : P.info? e = some i)
    (hx : ρ x = .slice (some ⟨id, off, none⟩) n n) (hy1 : ρ y1 = .int k1 l) (hg : H.get id = some ob) (hs : ob.sz = i.size ∨ ob.sz = 0) (h1 : 0 ≤ l) (h2 : l ≤ n) :
    aev P o ρ H (.slice (some ⟨id, off + l.toNat * i.size, none⟩) (n - l.toNat) (n - l.toNat)) H :=
  aev_intro fun B β a w hxs hr => by
    have g1 := hxs x (by rw [ho]; simp [Op.operands])
    have g2 := hxs y1 (by rw [ho]; simp [Op.operands])
    rw [hx] at g1
    rw [hy1] at g2
    have e2 := VR.still_eq rfl g2
    obtain ⟨p, c, e1, hc, hv⟩ := g1.cut (l := l.toNat) (h := n) (by omega) (Nat.le_refl _) (cut_size hr hg hs)
    have hel : P.elem t = e := by simp [Program.elem, ht]
    have hu : P.underlying t = some (.slice (P.elem t)) := by rw [hel]; exact ht
    refine ⟨β, _, w, ?_, hv, hr, Fr.refl hr⟩
    simp [execOp, ho, e1, e2, run_sliceAt_slice _ t _ _ _ _ hu, run_slice_l w t (some p) n c hu k1 l h1 h2, hel, sizeOf, typeInfo, hi, sliced]

theorem aev_extract {x : Operand} {j : Nat} {vs : Array Value} {v : Value} (ho : o.op = .extract x j) (hx : ρ x = .tuple vs) (hv : vs[j]? = some v) : aev P o ρ H v H :=
  aev_pure fun β a hxs => by
    have g1 := hxs x (by rw [ho]; simp [Op.operands])
    rw [hx] at g1
    generalize he : a.eval x = u at g1
    cases g1 with
    | tuple hs hr =>
      rename_i ys
      have hlt := (Array.getElem?_eq_some_iff.1 hv).1
      have h1 := hr j hlt
      have e1 : ys[j]? = some (ys.getD j junk) := arr_get (by omega)
      have e2 : vs.getD j junk = v := arr_at hv
      rw [e2] at h1
      generalize ys.getD j junk = z at e1 h1
      exact ⟨z, h1, fun w => by simp [execOp, ho, he, Instr.extract, e1]⟩

/-- A field of a struct that lies in a slot. -/
theorem aev_field {t : TypeId} {x : Operand} {f : Nat} {fl : Field} {fs : Array Field} {d : TypeDesc} {xs : Array Value} {v : Value} (ho : o.op = .field t x f) (ht : P.underlying t = some (.struct fs)) (hf : fs[f]? = some fl) (hd : P.underlying fl.type = some d) (hd2 : aggB d = false)
    (hx : ρ x = .agg xs) (hv : xs[fl.offset]? = some v) : aev P o ρ H v H :=
  aev_pure fun β a hxs => by
    have g1 := hxs x (by rw [ho]; simp [Op.operands])
    rw [hx] at g1
    generalize he : a.eval x = u at g1
    cases g1 with
    | agg hs hr =>
      rename_i ys
      have hlt := (Array.getElem?_eq_some_iff.1 hv).1
      have h1 := hr fl.offset hlt
      have e1 : ys[fl.offset]? = some (ys.getD fl.offset junk) := arr_get (by omega)
      have e2 : xs.getD fl.offset junk = v := arr_at hv
      rw [e2] at h1
      generalize ys.getD fl.offset junk = z at e1 h1
      exact ⟨z, h1, fun w => by simp [execOp, ho, he, Instr.field, run_underlying ht, hf, asAgg, part, run_isAgg hd, hd2, e1]⟩

theorem aev_convert {t u : TypeId} {x : Operand} {k k' : IntKind} {n : Int} {d : TypeDesc} (ho : o.op = .convert t u x) (ht : P.underlying t = some d) (hu : P.underlying u = some (.int k')) (hx : ρ x = .int k n) : aev P o ρ H (.int k' (k'.wrap n)) H :=
  aev_pure fun β a hxs => by
    have g1 := hxs x (by rw [ho]; simp [Op.operands])
    rw [hx] at g1
    have e1 := VR.still_eq rfl g1
    refine ⟨.int k' (k'.wrap n), .int _ _, fun w => ?_⟩
    simp [execOp, ho, e1, convert, run_underlying ht, run_underlying hu, Conv.intToInt]

theorem aev_makeFunc {f : Fn} {xs ys : Array Operand} (ho : o.op = .makeFunc f xs ys) : aev P o ρ H (.func f (xs.map ρ) (ys.map ρ)) H :=
  aev_pure fun β a hxs => by
    refine ⟨.func f (xs.map a.eval) (ys.map a.eval), ?_, fun w => by simp [execOp, ho, Instr.makeFunc]⟩
    have key : ∀ zs : Array Operand, (∀ z ∈ zs, z ∈ o.op.operands) → ∀ i, i < (zs.map ρ).size → VR β ((zs.map ρ).getD i junk) ((zs.map a.eval).getD i junk) := by
      intro zs hz i hi
      have hi' : i < zs.size := by simpa using hi
      have := hxs zs[i] (hz _ (Array.getElem_mem hi'))
      simpa [Array.getD_eq_getD_getElem?, hi'] using this
    exact .func f (by simp) (key xs (fun z hz => by rw [ho]; simp [Op.operands, hz])) (by simp) (key ys (fun z hz => by rw [ho]; simp [Op.operands, hz]))

/-- s[i], s a string. -/
theorem aev_index {t : TypeId} {x y : Operand} {k : IntKind} {s : ByteArray} {j : Int} (ho : o.op = .index t x y) (ht : P.underlying t = some .string) (hx : ρ x = .string s) (hy : ρ y = .int k j) (h0 : 0 ≤ j) (h1 : j.toNat < s.size) :
    aev P o ρ H (.int .u8 (s[j.toNat]'h1).toNat) H :=
  aev_pure fun β a hxs => by
    have g1 := hxs x (by rw [ho]; simp [Op.operands])
    have g2 := hxs y (by rw [ho]; simp [Op.operands])
    rw [hx] at g1
    rw [hy] at g2
    have e1 := VR.still_eq rfl g1
    have e2 := VR.still_eq rfl g2
    refine ⟨_, .int _ _, fun w => ?_⟩
    simp [execOp, ho, e1, e2, Instr.index, asIntOf, run_underlying ht, h0, h1]

theorem aev_strlen {t : TypeId} {x : Operand} {s : ByteArray} {ts : Array TypeId} (ho : o.op = .call { callee := .builtin .len, args := #[x], argTypes := ts }) (hts : ts = #[t]) (ht : P.underlying t = some .string) (hx : ρ x = .string s) : aev P o ρ H (.int .i64 s.size) H :=
  aev_pure fun β ac hxs => by
    have h1 := hxs x (by rw [ho]; simp [Op.operands, Call.operands])
    rw [hx] at h1
    have e1 := VR.still_eq rfl h1
    subst hts
    refine ⟨.int .i64 s.size, .int _ _, fun w => ?_⟩
    have := run_len_string (P := P) (w := w) t o.type s ht
    simp [execOp, ho, resolve, invoke, builtin, e1, this, goInt]

end
end Go.Proofs.Ytefmjpbmdoebaaa

/- The abstract machine, part 8: literals, calls, how a function is entered and left. -/
set_option linter.unusedVariables false
set_option linter.unusedSimpArgs false
namespace Go.Proofs.Ytefmjpbmdoebaaa
open Go Go.RowKit

/-- Two lists of the same length, related element by element. -/
def LR (β : Bm) (cs us : List Value) : Prop := cs.length = us.length ∧ ∀ (j : Nat) (v : Value), cs[j]? = some v → ∃ u, us[j]? = some u ∧ VR β v u

theorem LR.append {β : Bm} {a b c d : List Value} (h : LR β a b) (k : LR β c d) : LR β (a ++ c) (b ++ d) := by
  refine ⟨by rw [List.length_append, List.length_append, h.1, k.1], fun j v hj => ?_⟩
  rcases Nat.lt_or_ge j a.length with h1 | h1
  · rw [List.getElem?_append_left h1] at hj
    rw [List.getElem?_append_left (by rw [← h.1]; exact h1)]
    exact h.2 j v hj
  · rw [List.getElem?_append_right h1] at hj
    rw [List.getElem?_append_right (by rw [← h.1]; exact h1), ← h.1]
    exact k.2 _ v hj

theorem LR.splice {β : Bm} {cs us vs ws : List Value} {off : Nat} (h : LR β cs us) (k : LR β vs ws) (hf : off + vs.length ≤ cs.length) : LR β (splice cs off vs) (splice us off ws) :=
  ⟨by rw [splice_length hf, splice_length (by rw [← k.1, ← h.1]; exact hf), h.1], splice_rel h.2 k.1 k.2 hf (by rw [← h.1]; exact hf)⟩

theorem LR.cells {β : Bm} {v u : Value} (h : Value.known v = true) (hv : VR β v u) : LR β (cellsOf v) u.cells.toList := by
  obtain ⟨h1, h2⟩ := hv.cells h
  refine ⟨by simpa using h1, ?_⟩
  have := getD_rel (n := 0) h1 h2
  simpa using this

theorem LR.flat {β : Bm} : ∀ (vs us : List Value), LR β vs us → (∀ v ∈ vs, Value.known v = true) → LR β (vs.flatMap cellsOf) (us.flatMap fun v => v.cells.toList)
  | [], us, h, _ => by
    have : us = [] := List.eq_nil_of_length_eq_zero h.1.symm
    subst this
    exact ⟨rfl, fun j v hj => by simp at hj⟩
  | v :: vs, [], h, _ => by have := h.1; simp at this
  | v :: vs, u :: us, h, hk => by
    rw [List.flatMap_cons, List.flatMap_cons]
    obtain ⟨u', h1, h2⟩ := h.2 0 v rfl
    cases h1
    refine (LR.cells (hk v (by simp)) h2).append (LR.flat vs us ⟨by have := h.1; simpa using this, fun j x hj => ?_⟩ (fun x hx => hk x (by simp [hx])))
    have := h.2 (j + 1) x hj
    simpa using this

section
variable {P : Program} {o : Oper} {ρ : Operand → Value} {H H' : Hp} {r : Value}

/-- A slice literal, every element given. -/
theorem anew_lit {t e : TypeId} {len : Nat} {parts : Array (Nat × Operand)} {xs : List Operand} {i : TypeInfo} {z : Value} (ho : o.op = .buildSlice t len parts) (hp : parts.toList = (xs.zipIdx 0).map fun x => (x.2, x.1)) (hlen : len = xs.length)
    (ht : P.underlying t = some (.slice e)) (hi : P.info? e = some i) (hz : i.zero = some z) (h0 : 0 < i.size) (hl : 0 < len) (hsm : len * i.size ≤ 16777216)
    (hk : ∀ x ∈ xs, (cellsOf (ρ x)).length = i.size ∧ (cellsOf (ρ x)).all Value.one = true) :
    anew P o ρ ⟨e, i.size, (xs.map ρ).flatMap cellsOf⟩ (fun id => .slice (some ⟨id, 0, none⟩) len len) := by
    refine ⟨h0, ?_⟩
    intro β a w hxs
    have hop : ∀ x ∈ xs, x ∈ o.op.operands := by
      intro x hx
      rw [ho]
      simp only [Op.operands, List.mem_toArray, List.mem_map, hp]
      obtain ⟨j, hj, rfl⟩ := List.mem_iff_getElem.1 hx
      refine ⟨(j, xs[j]), ⟨(xs[j], j), ?_, rfl⟩, rfl⟩
      rw [List.mem_iff_getElem?]
      exact ⟨j, by simp [List.getElem?_zipIdx, hj]⟩
    have hlr : LR β (xs.map ρ) (xs.map a.eval) := by
      refine ⟨by simp, fun j v hj => ?_⟩
      rw [List.getElem?_map] at hj
      obtain ⟨x, hx, rfl⟩ := Option.map_eq_some_iff.1 hj
      exact ⟨a.eval x, by rw [List.getElem?_map, hx]; rfl, hxs x (hop x (List.mem_of_getElem? hx))⟩
    have hkn : ∀ v ∈ xs.map ρ, Value.known v = true := by
      intro v hv
      obtain ⟨x, hx, rfl⟩ := List.mem_map.1 hv
      exact one_known (hk x hx).2
    have hflat := LR.flat _ _ hlr hkn
    have hsz : ∀ v ∈ xs.map a.eval, v.cells.size = i.size := by
      intro v hv
      obtain ⟨x, hx, rfl⟩ := List.mem_map.1 hv
      obtain ⟨h1, _⟩ := (hxs x (hop x hx)).cells (one_known (hk x hx).2)
      rw [← h1]; exact (hk x hx).1
    have hfill := Great.fill_whole h0 (xs.map a.eval) ((Array.range (len * i.size)).map (z.cells[· % z.cells.size]!)) hsz (by simp [hlen])
    have hparts : (parts.map fun (i, x) => (i, a.eval x)).toList = ((xs.map a.eval).zipIdx 0).map fun x => (x.2, x.1) := by
      rw [Array.toList_map, hp, List.zipIdx_map, List.map_map, List.map_map]
      rfl
    rw [← hparts] at hfill
    have hrun := run_buildSlice (P := P) w t e len (parts.map fun (i, x) => (i, a.eval x)) _ i z ht hi hz (by omega) (by have := Nat.mul_pos hl h0; omega) hfill
    have h7 : ((xs.map a.eval).flatMap fun v => v.cells.toList).length = len * i.size := by
      have hgen : ∀ l : List Value, (∀ v ∈ l, v.cells.size = i.size) → (l.flatMap fun v => v.cells.toList).length = l.length * i.size := by
        intro l
        induction l with
        | nil => intro _; simp
        | cons v l ih =>
          intro h
          rw [List.flatMap_cons, List.length_append, ih (fun x hx => h x (by simp [hx])), List.length_cons, Nat.add_mul, Nat.one_mul]
          have := h v (by simp)
          simp only [Array.length_toList, this]; omega
      rw [hgen _ hsz, List.length_map, hlen]
    refine ⟨.slice (some ⟨w.heap.size, 0, none⟩) len len, _, w.heap.size, len * i.size, ((xs.map a.eval).flatMap fun v => v.cells.toList).toArray, ?_, grown_alloc _ _, Nat.le_refl _, alloc_at _ _, ?_, ?_, ?_, fun β' id h => .slice h (.inl rfl) (Nat.le_refl _) ?_ fun K sz h' => ?_⟩
    · simp [execOp, ho, hrun]
    · rw [List.size_toArray, h7]; exact Nat.le_refl _
    · show ((xs.map ρ).flatMap cellsOf).length ≤ _
      rw [hflat.1, h7]; exact Nat.le_refl _
    · intro j v hj
      obtain ⟨u, h5, h6⟩ := hflat.2 j v hj
      exact ⟨u, by simpa using h5, h6⟩
    · have : len ≤ len * i.size := Nat.le_mul_of_pos_right _ h0
      simp only [maxLen]; omega
    · cases h'
      show 0 + len * i.size ≤ _
      omega

/-- A slice literal without elements. -/
theorem anew_lit0 {t e : TypeId} {i : TypeInfo} {parts : Array (Nat × Operand)} (ho : o.op = .buildSlice t 0 parts) (hp : parts = #[]) (ht : P.underlying t = some (.slice e)) (hi : P.info? e = some i) (h0 : 0 < i.size) :
    anew P o ρ ⟨e, i.size, []⟩ (fun id => .slice (some ⟨id, 0, none⟩) 0 0) := by
    refine ⟨h0, ?_⟩
    intro β a w hxs
    subst hp
    refine ⟨.slice (some ⟨w.heap.size, 0, none⟩) 0 0, w.alloc (.cells #[] e), w.heap.size, 0, #[], ?_, grown_alloc _ _, Nat.le_refl _, alloc_at _ _, Nat.le_refl _, Nat.le_refl _, fun j v hj => by simp at hj, fun β' id h => .slice h (.inl rfl) (Nat.le_refl _) (by simp) fun K sz h' => by cases h'; simp⟩
    have hr0 : Array.map (fun x : Nat => (default : Value)) (Array.range 0) = #[] := by simp
    simp [execOp, ho, Instr.buildSlice, run_underlying ht, sizeOf, typeInfo, hi, Instr.fill, newRow, hr0]

/-- The cells of a struct literal. -/
def bld (pl : List (Nat × Nat)) : List Value → List (Nat × Value) → Option (List Value)
  | cs, [] => some cs
  | cs, (i, v) :: rest =>
    match pl[i]? with
    | none => none
    | some (off, size) => if (cellsOf v).length = size ∧ off + size ≤ cs.length then bld pl (splice cs off (cellsOf v)) rest else none

theorem fill_bld {β : Bm} {pl : List (Nat × Nat)} : ∀ (ps qs : List (Nat × Value)) (cs : List Value) (us : Array Value) (r : List Value), LR β cs us.toList → ps.length = qs.length →
    (∀ (j : Nat) (p : Nat × Value), ps[j]? = some p → ∃ q, qs[j]? = some q ∧ q.1 = p.1 ∧ VR β p.2 q.2 ∧ Value.known p.2 = true) → bld pl cs ps = some r → ∃ r', Instr.fill (pl.toArray[·]?) us qs = some r' ∧ LR β r r'.toList
  | [], [], cs, us, r, h, _, _, hb => by cases hb; exact ⟨us, rfl, h⟩
  | [], _ :: _, _, _, _, _, hl, _, _ => by simp at hl
  | _ :: _, [], _, _, _, _, hl, _, _ => by simp at hl
  | (i, v) :: ps, (i', u) :: qs, cs, us, r, h, hl, hp, hb => by
    obtain ⟨q, hq, h1, h2, h3⟩ := hp 0 (i, v) rfl
    cases hq
    simp only at h1 h2 h3
    subst h1
    unfold bld at hb
    cases hpl : pl[i']? with
    | none => rw [hpl] at hb; cases hb
    | some os =>
      obtain ⟨off, size⟩ := os
      rw [hpl] at hb
      simp only at hb
      split at hb
      · rename_i hfit
        have hc := LR.cells h3 h2
        have hcl : u.cells.size = size := by have := hc.1; simp at this; omega
        have hus : cs.length = us.size := by have := h.1; simpa using this
        obtain ⟨g1, g2⟩ := Great.foldl_set off u.cells.toList 0 us
        have hnew : ((u.cells.toList.zipIdx 0).foldl (fun cs (x : Value × Nat) => cs.setIfInBounds (off + x.2) x.1) us).toList = splice us.toList off u.cells.toList := by
          apply List.ext_getElem?
          intro k
          have := g2 k
          rw [splice_get (by simp; omega)]
          simp only [Nat.add_zero] at this
          rw [Array.getElem?_toList, this]
          by_cases hk : off ≤ k ∧ k < off + u.cells.toList.length
          · rw [if_pos hk, if_pos ⟨hk.1, hk.2, by have := hk.2; simp at this; omega⟩]
          · rw [if_neg hk, if_neg (fun h => hk ⟨h.1, h.2.1⟩)]
            simp
        have hlr : LR β (splice cs off (cellsOf v)) ((u.cells.toList.zipIdx 0).foldl (fun cs (x : Value × Nat) => cs.setIfInBounds (off + x.2) x.1) us).toList := by
          rw [hnew]; exact h.splice hc (by omega)
        obtain ⟨r', hr', hrl⟩ := fill_bld ps qs _ _ r hlr (by simpa using hl) (fun j p hj => by have := hp (j + 1) p hj; simpa using this) hb
        refine ⟨r', ?_, hrl⟩
        unfold Instr.fill
        have hpl' : pl.toArray[i']? = some (off, size) := by simpa using hpl
        simp only [hpl', hcl]
        rw [if_neg (by simp; omega)]
        rw [← hr']
        congr 1
        rw [← Array.foldl_toList, Array.toList_zipIdx]
      · cases hb

theorem known_lr {l : List Value} (h : l.all Value.still = true) (β : Bm) : LR β l l := ⟨rfl, fun j v hj => ⟨v, hj, known_list h j β v hj⟩⟩

/-- A struct literal. -/
theorem aev_build {t : TypeId} {parts : Array (Nat × Operand)} {fs : Array Field} {it : TypeInfo} {z : Value} {pl : List (Nat × Nat)} {cs : List Value} (ho : o.op = .build t parts) (ht : P.underlying t = some (.struct fs)) (hi : P.info? t = some it) (hz : it.zero = some z)
    (hpl : fs.toList.mapM (fun f => (P.info? f.type).map fun i => (f.offset, i.size)) = some pl) (hst : (cellsOf z).all Value.still = true) (hk : ∀ p ∈ parts.toList, Value.known (ρ p.2) = true)
    (hb : bld pl (cellsOf z) (parts.toList.map fun p => (p.1, ρ p.2)) = some cs) : aev P o ρ H (.agg cs.toArray) H :=
  aev_pure fun β a hxs => by
    have hop : ∀ p ∈ parts.toList, p.2 ∈ o.op.operands := by
      intro p hp
      rw [ho]
      simp only [Op.operands, List.mem_toArray, List.mem_map]
      exact ⟨p, hp, rfl⟩
    have h0 : LR β (cellsOf z) z.cells.toList := by rw [cells_eq]; exact known_lr hst β
    obtain ⟨r', h1, h2⟩ := fill_bld (parts.toList.map fun p => (p.1, ρ p.2)) (parts.map fun (i, x) => (i, a.eval x)).toList (cellsOf z) z.cells cs h0 (by simp) (fun j p hj => by
      rw [List.getElem?_map] at hj
      obtain ⟨x, hx, rfl⟩ := Option.map_eq_some_iff.1 hj
      have hm := List.mem_of_getElem? hx
      refine ⟨(x.1, a.eval x.2), ?_, rfl, hxs _ (hop x hm), hk x hm⟩
      rw [Array.toList_map, List.getElem?_map, hx]
      rfl) hb
    have hbt : P.built t (parts.map fun (i, x) => (i, a.eval x)).toList = some r' := by
      unfold Program.built
      simp only [hi, ht, hz, hpl]
      exact h1
    refine ⟨.agg r', .agg (by simpa using h2.1) fun j hj => ?_, fun w => by simp [execOp, ho, run_build w t _ _ hbt]⟩
    have hj' : j < cs.length := by simpa using hj
    obtain ⟨u, h3, h4⟩ := h2.2 j cs[j] (List.getElem?_eq_getElem hj')
    have e1 : r'.getD j junk = u := arr_at (by simpa using h3)
    have e2 : cs.toArray.getD j junk = cs[j] := arr_at (by simp [hj'])
    rw [e1, e2]; exact h4

/-! ### calls -/
/-- What a call of function f comes to: result r, memory H'. -/
def acall (P : Program) (f : FuncId) (args : List Value) (H : Hp) (r : Value) (H' : Hp) : Prop :=
  (∃ fn, P.funcs[f]? = some fn ∧ fn.body.isNone = false ∧ (fn.name == "runtime.NumGoroutine") = false) ∧
  ∀ (B : Nat) (β : Bm) (w : World) (vargs : Array Value), LR β args vargs.toList → HR B β H w →
    Calls P f vargs w fun e w' => ∃ β' v, e = .returned v ∧ VR β' r v ∧ HR B β' H' w' ∧ Fr B β H w β' H' w'

theorem run_callFunc {f : FuncId} {fn : Func} (hf : P.funcs[f]? = some fn) (hb : fn.body.isNone = false) (hn : (fn.name == "runtime.NumGoroutine") = false) (args : Array Value) (w : World) : (callFunc f args).run P w = .ok (.enter f args) w := by
  have h1 : fn.name ≠ "runtime.NumGoroutine" := by simpa using hn
  cases hbody : fn.body with
  | none => rw [hbody] at hb; cases hb
  | some c => simp [callFunc, hf, hbody, h1]

/-- A call of a function value (a function's name, a closure). -/
theorem aev_call {f : Operand} {xs : Array Operand} {ts : Array TypeId} {n : FuncId} {first caps : Array Value} (ho : o.op = .call { callee := .value f, args := xs, argTypes := ts }) (hf : ρ f = .func (.func n) first caps)
    (h : acall P n (first.toList ++ (xs.toList.map ρ) ++ caps.toList) H r H') : aev P o ρ H r H' := by
  intro B β a w hxs hr next Q hnx
  obtain ⟨⟨fn, h1, h2, h3⟩, hc⟩ := h
  have g1 := hxs f (by rw [ho]; simp [Op.operands, Call.operands])
  rw [hf] at g1
  generalize he : a.eval f = u at g1
  cases g1 with
  | func g hs hv hs' hv' =>
    rename_i ys ds
    have hrun : (execOp a.eval o).run P w = .ok (.enter n (ys ++ xs.map a.eval ++ ds)) w := by
      simp [execOp, ho, resolve, he, Deferred.ofValue, invoke, run_callFunc h1 h2 h3]
    unfold Oper.wp
    rw [hrun]
    simp only [Oper.upon]
    have lr : ∀ (xz bs : Array Value), xz.size = bs.size → (∀ i, i < xz.size → VR β (xz.getD i junk) (bs.getD i junk)) → LR β xz.toList bs.toList := by
      intro xz bs hs hv
      refine ⟨by simpa using hs, fun j v hj => ?_⟩
      have hj' : xz[j]? = some v := by simpa using hj
      have hlt := (Array.getElem?_eq_some_iff.1 hj').1
      have := hv j hlt
      rw [arr_at hj'] at this
      exact ⟨bs.getD j junk, by rw [Array.getElem?_toList]; exact arr_get (by omega), this⟩
    have hlr : LR β (first.toList ++ (xs.toList.map ρ) ++ caps.toList) (ys ++ xs.map a.eval ++ ds).toList := by
      rw [Array.toList_append, Array.toList_append, Array.toList_map]
      refine ((lr first ys hs hv).append ⟨by simp, fun j v hj => ?_⟩).append (lr caps ds hs' hv')
      rw [List.getElem?_map] at hj
      obtain ⟨x, hx, rfl⟩ := Option.map_eq_some_iff.1 hj
      exact ⟨a.eval x, by rw [List.getElem?_map, hx]; rfl, hxs x (by rw [ho]; simp [Op.operands, Call.operands]; exact .inr (by have := List.mem_of_getElem? hx; simpa using this))⟩
    refine (hc B β w _ hlr hr).mono ?_
    rintro e w' ⟨β', v, rfl, k1, k2, k3⟩
    exact hnx β' v w' k1 k2 k3

/-! ### a function's body -/
def St.init (n : Nat) (args : List Value) (H : Hp) : St := ⟨n, fun j => args.getD j undef, H⟩

/-- What one of the results is: a slot, or what lies at its address. -/
inductive ARes (P : Program) (S : St) : ResultVar → Value → Prop
  | tmp {t : Nat} (h : t < S.n) : ARes P S (.tmp t) (S.T t)
  | cell {a : Nat} {t : TypeId} {d : TypeDesc} {id off : Nat} {ob : Ob} {v : Value} (h : a < S.n) (hp : S.T a = .pointer (some ⟨id, off, none⟩)) (ht : P.underlying t = some d) (hd : aggB d = false) (hg : S.H.get id = some ob) (hv : ob.cs[off]? = some v) : ARes P S (.cell a t) v
  | cells {a : Nat} {t : TypeId} {d : TypeDesc} {i : TypeInfo} {id off : Nat} {ob : Ob} {cs : List Value} (h : a < S.n) (hp : S.T a = .pointer (some ⟨id, off, none⟩)) (ht : P.underlying t = some d) (hd : aggB d = true) (hi : P.info? t = some i) (hn : i.size = cs.length)
      (hg : S.H.get id = some ob) (hv : ∀ (j : Nat) (v : Value), cs[j]? = some v → ob.cs[off + j]? = some v) : ARes P S (.cell a t) (.agg cs.toArray)

/-- A result's value, xz the model reads it. -/
def resOne (tmps : Array Value) : ResultVar → Go.Sem Value
  | .tmp t => pure (tmps.getD t undef)
  | .cell a t => do loadVar t (← asAddr (tmps.getD a undef))

theorem ARes.sound {S : St} {rv : ResultVar} {v : Value} (h : ARes P S rv v) {B : Nat} {β : Bm} {a : Act} {w : World} (ht : TR β S a) (hr : HR B β S.H w) :
    ∃ u, VR β v u ∧ (resOne a.tmps rv).run P w = .ok u w := by
  cases h with
  | tmp h => exact ⟨_, ht.2 _ h, rfl⟩
  | cell h hp hty hd hg hv =>
    rename_i x t d id off ob
    have g1 := ht.2 x h
    rw [hp] at g1
    show ∃ u, VR β v u ∧ ((do loadVar t (← asAddr (a.tmps.getD x undef))) : Go.Sem Value).run P w = .ok u w
    generalize a.tmps.getD x undef = u at g1 ⊢
    cases g1 with
    | ptr hb =>
      obtain ⟨u, h2, h3⟩ := hr.cell id ob _ _ hg hb off v hv
      exact ⟨u, h3, by simp [asAddr, loadVar, run_isAgg hty, hd, h2]⟩
  | cells h hp hty hd hi hn hg hv =>
    rename_i x t d i id off ob cs
    have g1 := ht.2 x h
    rw [hp] at g1
    show ∃ u, VR β (.agg cs.toArray) u ∧ ((do loadVar t (← asAddr (a.tmps.getD x undef))) : Go.Sem Value).run P w = .ok u w
    generalize a.tmps.getD x undef = u at g1 ⊢
    cases g1 with
    | ptr hb =>
      rename_i b k
      obtain ⟨us, u1, u2, u3⟩ := hr.read hg hb cs hv
      have hrun := run_loadCells_list (P := P) (w := w) ⟨b, off, none⟩ us u2
      refine ⟨.agg us.toArray, .agg (by simp [u1]) fun j hj => ?_, ?_⟩
      · have hj' : j < cs.length := by simpa using hj
        obtain ⟨u, h3, h4⟩ := u3 j cs[j] (List.getElem?_eq_getElem hj')
        have e1 : us.toArray.getD j junk = u := arr_at (by simpa using h3)
        have e2 : cs.toArray.getD j junk = cs[j] := arr_at (by simp [hj'])
        rw [e1, e2]; exact h4
      · rw [u1] at hrun
        simp [asAddr, loadVar, run_isAgg hty, hd, sizeOf, typeInfo, hi, hn, hrun]

inductive AllRes (P : Program) (S : St) : List ResultVar → List Value → Prop
  | nil : AllRes P S [] []
  | cons {rv : ResultVar} {rvs : List ResultVar} {v : Value} {vs : List Value} (h : ARes P S rv v) (k : AllRes P S rvs vs) : AllRes P S (rv :: rvs) (v :: vs)

/-- The results together. -/
def resVal : List Value → Value
  | [v] => v
  | vs => .tuple vs.toArray

theorem AllRes.sound {S : St} {rvs : List ResultVar} {vs : List Value} (h : AllRes P S rvs vs) {B : Nat} {β : Bm} {a : Act} {w : World} (ht : TR β S a) (hr : HR B β S.H w) :
    ∃ us, LR β vs us ∧ (rvs.mapM (resOne a.tmps)).run P w = .ok us w := by
  induction h with
  | nil => exact ⟨[], ⟨rfl, fun j v hj => by simp at hj⟩, rfl⟩
  | cons h k ih =>
    obtain ⟨u, h1, h2⟩ := h.sound ht hr
    obtain ⟨us, h3, h4⟩ := ih
    refine ⟨u :: us, ⟨by simp [h3.1], fun j v hj => ?_⟩, ?_⟩
    · cases j with
      | zero => simp at hj; subst hj; exact ⟨u, rfl, h1⟩
      | succ j => exact h3.2 j v (by simpa using hj)
    · simp only [List.mapM_cons, Sem.run_bind, h2, Result.andThen_ok, h4]
      rfl

theorem LR.resVal {β : Bm} {vs us : List Value} (h : LR β vs us) : VR β (resVal vs) (if hh : us.toArray.size = 1 then us.toArray[0] else Value.tuple us.toArray) := by
  have tup : ∀ vs us : List Value, LR β vs us → VR β (.tuple vs.toArray) (.tuple us.toArray) := by
    intro vs us h
    refine .tuple (by simpa using h.1) fun j hj => ?_
    have hj' : j < vs.length := by simpa using hj
    obtain ⟨u, h3, h4⟩ := h.2 j vs[j] (List.getElem?_eq_getElem hj')
    have e1 : us.toArray.getD j junk = u := arr_at (by simpa using h3)
    have e2 : vs.toArray.getD j junk = vs[j] := arr_at (by simp [hj'])
    rw [e1, e2]; exact h4
  match vs, us, h with
  | [], us, h =>
    have : us = [] := List.eq_nil_of_length_eq_zero h.1.symm
    subst this
    exact tup _ _ h
  | [v], us, h =>
    obtain ⟨u, h1, h2⟩ := h.2 0 v rfl
    match us, h.1, h1 with
    | [u'], _, h1 => cases h1; exact h2
  | v :: v' :: vs, us, h =>
    have hl := h.1
    rw [dif_neg (by simp at hl ⊢; omega)]
    exact tup _ _ h

theorem acall_enter {f : FuncId} {fn : Func} {c : Code} {args : List Value} {e : Exit} {S' : St} {vs : List Value} (hf : P.funcs[f]? = some fn) (hb : fn.body = some c) (hn : (fn.name == "runtime.NumGoroutine") = false) (hl : args.length ≤ fn.ntmps)
    (h : Sem P c (St.init fn.ntmps args H) e S') (he : e = .ret ∨ e = .normal) (hr : AllRes P S' fn.results.toList vs) : acall P f args H (resVal vs) S'.H := by
  refine ⟨⟨fn, hf, by rw [hb]; rfl, hn⟩, fun B β w vargs hlr hrw => ?_⟩
  have hsz : vargs.size = args.length := by have := hlr.1; simpa using this.symm
  refine calls_of_wp hf hb ?_
  refine wp_mono (h B β { tmps := vargs ++ Array.replicate (fn.ntmps - vargs.size) undef, defers := [] } w ⟨?_, ?_⟩ hrw rfl) ?_
  · show (vargs ++ Array.replicate (fn.ntmps - vargs.size) undef).size = fn.ntmps
    simp; omega
  · intro i hi
    have hi' : i < fn.ntmps := hi
    show VR β (args.getD i undef) ((vargs ++ Array.replicate (fn.ntmps - vargs.size) undef).getD i undef)
    by_cases h1 : i < args.length
    · obtain ⟨u, h2, h3⟩ := hlr.2 i args[i] (List.getElem?_eq_getElem h1)
      have e1 : vargs[i]? = some u := by simpa using h2
      have e2 : (vargs ++ Array.replicate (fn.ntmps - vargs.size) undef)[i]? = some u := by rw [Array.getElem?_append_left (by omega)]; exact e1
      rw [Array.getD_eq_getD_getElem?, e2, List.getD_eq_getElem?_getD, List.getElem?_eq_getElem h1]
      exact h3
    · rw [List.getD_eq_getElem?_getD, List.getElem?_eq_none (by omega)]
      have e2 : (vargs ++ Array.replicate (fn.ntmps - vargs.size) undef)[i]? = some undef := by
        rw [Array.getElem?_append_right (by omega), Array.getElem?_replicate, if_pos (by omega)]
      rw [Array.getD_eq_getD_getElem?, e2]
      exact VR.undef
  · rintro e' a' w' ⟨rfl, hd, β', ht, hr', hf'⟩
    obtain ⟨us, h1, h2⟩ := hr.sound ht hr'
    have hres : (results fn a'.tmps).run P w' = .ok (if hh : us.toArray.size = 1 then us.toArray[0] else Value.tuple us.toArray) w' := by
      have e0 : results fn a'.tmps = (do let vs ← fn.results.mapM (resOne a'.tmps); pure (if h : vs.size = 1 then vs[0] else .tuple vs)) := rfl
      rw [e0, Array.mapM_eq_mapM_toList]
      simp [h2]
    rcases he with rfl | rfl
    · exact ⟨hd, _, hres, β', _, rfl, h1.resVal, hr', hf'⟩
    · exact ⟨hd, _, hres, β', _, rfl, h1.resVal, hr', hf'⟩

end
end Go.Proofs.Ytefmjpbmdoebaaa

/- The abstract machine, part 9: statements whose operations may be carried out in several orders: one order is followed; the others come to the same. -/
set_option linter.unusedVariables false
set_option linter.unusedSimpArgs false
namespace Go.Proofs.Ytefmjpbmdoebaaa
open Go Go.RowKit

/-- 0: asks no memory; 1: makes a new row, asks none; 2: reads a row; 3: makes memory; 4: writes; 5: not taken. -/
def cls : Op → Nat
  | .move _ | .assign _ | .pick .. | .binOp .. | .unOp .. | .extract .. | .nilCheck _ | .fieldAddr .. | .indexAddr .. | .field .. | .build .. | .makeFunc .. | .index .. | .convert .. => 0
  | .alloc _ | .box .. | .buildSlice .. | .makeSlice .. => 1
  | .load .. | .slice .. => 2
  | .store .. => 4
  | .call c =>
    match c.callee with
    | .builtin .len | .builtin .max | .builtin .min => 0
    | .builtin .append | .value _ => 3
    | .builtin .clear | .builtin .copy => 4
    | _ => 5
  | _ => 5

def preds (o : Oper) : List Nat := (o.after.toList.filter (Region.binds .any)).map (·.on)

/-- For each operation the set (as bits) of those that come before it in any order. -/
def masksAux : List Oper → List Nat → List Nat
  | [], acc => acc
  | o :: l, acc => masksAux l (acc ++ [(preds o).foldl (fun m p => m ||| (1 <<< p) ||| acc.getD p 0) 0])
def masks (ops : Array Oper) : List Nat := masksAux ops.toList []

inductive Reach (ops : Array Oper) : Nat → Nat → Prop
  | edge {i j : Nat} {o : Oper} (ho : ops[j]? = some o) (h : i ∈ preds o) : Reach ops i j
  | step {i p j : Nat} {o : Oper} (ho : ops[j]? = some o) (h : p ∈ preds o) (k : Reach ops i p) : Reach ops i j

theorem fold_bits {acc : List Nat} (i : Nat) : ∀ (l : List Nat) (m : Nat), (l.foldl (fun m p => m ||| (1 <<< p) ||| acc.getD p 0) m).testBit i = true → m.testBit i = true ∨ ∃ p ∈ l, i = p ∨ (acc.getD p 0).testBit i = true
  | [], m, h => .inl h
  | p :: l, m, h => by
    rw [List.foldl_cons] at h
    rcases fold_bits i l _ h with h1 | ⟨q, hq, h1⟩
    · rw [Nat.testBit_or, Nat.testBit_or] at h1
      simp only [Bool.or_eq_true] at h1
      rcases h1 with (h1 | h1) | h1
      · exact .inl h1
      · refine .inr ⟨p, by simp, .inl ?_⟩
        rw [Nat.one_shiftLeft, Nat.testBit_two_pow] at h1
        simpa using (of_decide_eq_true h1).symm
      · exact .inr ⟨p, by simp, .inr h1⟩
    · exact .inr ⟨q, by simp [hq], h1⟩

theorem masksAux_ok {ops : Array Oper} : ∀ (l : List Oper) (acc : List Nat), ops.toList.drop acc.length = l → (∀ j i, (acc.getD j 0).testBit i = true → Reach ops i j) → ∀ j i, ((masksAux l acc).getD j 0).testBit i = true → Reach ops i j
  | [], acc, _, h => h
  | o :: l, acc, hl, h => by
    have ho : ops[acc.length]? = some o := by
      have := congrArg (fun l => l[0]?) hl
      simpa using this
    refine masksAux_ok l _ ?_ ?_
    · have := congrArg List.tail hl
      simpa using this
    · intro j i hj
      rcases Nat.lt_trichotomy j acc.length with h1 | h1 | h1
      · refine h j i ?_
        rw [List.getD_eq_getElem?_getD, List.getElem?_append_left h1, ← List.getD_eq_getElem?_getD] at hj
        exact hj
      · subst h1
        rw [List.getD_eq_getElem?_getD, List.getElem?_append_right (Nat.le_refl _), Nat.sub_self] at hj
        rcases fold_bits i _ _ hj with h2 | ⟨p, hp, h2 | h2⟩
        · simp at h2
        · subst h2; exact .edge ho hp
        · exact .step ho hp (h p i h2)
      · rw [List.getD_eq_getElem?_getD, List.getElem?_append_right (by omega), List.getElem?_eq_none (by simp; omega)] at hj
        simp at hj

theorem masks_ok {ops : Array Oper} {j i : Nat} (h : ((masks ops).getD j 0).testBit i = true) : Reach ops i j :=
  masksAux_ok ops.toList [] rfl (fun j i h => by simp at h) j i h

/-- May two operations without order between them stand so, the first one ahead? -/
def fine (c d : Nat) : Bool := !((3 ≤ c && (d == 1 || 3 ≤ d)) || (c == 4 && d == 2) || (c == 2 && 3 ≤ d) || (c == 1 && d == 4))

def pairOK (ms : List Nat) (ops : Array Oper) (i j : Nat) : Bool :=
  !(i == j) && !((ms.getD i 0).testBit j) &&
  ((ms.getD j 0).testBit i ||
    match ops[i]?, ops[j]? with
    | some x, some y => x.apart ops y && fine (cls x.op) (cls y.op)
    | _, _ => false)

def pairsOK (ms : List Nat) (ops : Array Oper) : List Nat → Bool
  | [] => true
  | i :: l => l.all (pairOK ms ops i) && pairsOK ms ops l

/-- The order sg may be followed for the region ops. -/
def sgOK (ops : Array Oper) (n : Nat) (sg : List Nat) : Bool :=
  (sg.length == ops.size) && sg.all (· < ops.size) && (List.range ops.size).all (fun i => sg.contains i) && ops.all (fun o => cls o.op ≤ 4) && opsOK n ops && pairsOK (masks ops) ops sg &&
    (List.range ops.size).all (fun j => (((ops[j]?).map preds).getD []).all fun i => !(i == j) && decide (i < ops.size) && ((masks ops).getD j 0).testBit i)

/-- What is old is as it was, or given up. -/
def GE (H H' : Hp) : Prop := H.nxt ≤ H'.nxt ∧ ∀ id, id < H.nxt → H'.get id = H.get id ∨ H'.get id = none

def StepC (P : Program) (o : Oper) (S : St) (r : Value) (H' : Hp) : Prop :=
  match cls o.op with
  | 0 => H' = S.H ∧ ∀ G, aev P o S.rho G r G
  | 1 => ∃ ob f, H' = S.H.new ob ∧ r = f S.H.nxt ∧ anew P o S.rho ob f
  | 2 => H' = S.H ∧ ∃ id ob, S.H.get id = some ob ∧ (∀ (β : Bm) (ev : Operand → Value), (∀ x ∈ o.op.operands, VR β (S.rho x) (ev x)) → ∃ p, β id = some p) ∧ ∀ G, G.get id = some ob → aev P o S.rho G r G
  | 3 => aev P o S.rho S.H r H' ∧ GE S.H H'
  | 4 => aev P o S.rho S.H r H' ∧ S.H.nxt ≤ H'.nxt
  | _ => False

/-- What is to be shown of an operation: in a statement whose operations may come in several orders, and in one where they may not. -/
def StepF (fl : Bool) (P : Program) (o : Oper) (S : St) (r : Value) (H' : Hp) : Prop := if fl then StepC P o S r H' else aev P o S.rho S.H r H'

section
variable {fl : Bool} {P : Program} {o : Oper} {S : St} {r : Value} {H' : Hp}

theorem StepF.pure (hc : cls o.op = 0) (h : ∀ G, aev P o S.rho G r G) : StepF fl P o S r S.H := by
  unfold StepF
  split
  · unfold StepC; rw [hc]; exact ⟨rfl, h⟩
  · exact h _
theorem StepF.new {ob : Ob} {f : Nat → Value} (hc : cls o.op = 1) (h : anew P o S.rho ob f) : StepF fl P o S (f S.H.nxt) (S.H.new ob) := by
  unfold StepF
  split
  · unfold StepC; rw [hc]; exact ⟨ob, f, rfl, rfl, h⟩
  · exact h.aev _
theorem StepF.load {id : Nat} {ob : Ob} (hc : cls o.op = 2) (hg : S.H.get id = some ob) (hm : ∀ (β : Bm) (ev : Operand → Value), (∀ x ∈ o.op.operands, VR β (S.rho x) (ev x)) → ∃ p, β id = some p) (h : ∀ G, G.get id = some ob → aev P o S.rho G r G) : StepF fl P o S r S.H := by
  unfold StepF
  split
  · unfold StepC; rw [hc]; exact ⟨rfl, id, ob, hg, hm, h⟩
  · exact h _ hg
theorem StepF.chain (hc : cls o.op = 3) (h : aev P o S.rho S.H r H') (hg : fl = true → GE S.H H') : StepF fl P o S r H' := by
  unfold StepF
  split
  · rename_i hf
    unfold StepC; rw [hc]; exact ⟨h, hg hf⟩
  · exact h
theorem StepF.write (hc : cls o.op = 4) (h : aev P o S.rho S.H r H') (hn : S.H.nxt ≤ H'.nxt) : StepF fl P o S r H' := by
  unfold StepF
  split
  · unfold StepC; rw [hc]; exact ⟨h, hn⟩
  · exact h
theorem StepF.plain (h : aev P o S.rho S.H r H') : StepF false P o S r H' := h

end

/-- The operations of a region, in the order that is followed. -/
inductive RF (P : Program) (fl : Bool) (all : Array Oper) : List Oper → St → St → Prop
  | nil {S : St} : RF P fl all [] S S
  | go {o : Oper} {l : List Oper} {S S' : St} {r : Value} {H' : Hp} (hg : gw all S.T o = some true) (he : StepF fl P o S r H') (hr : RF P fl all l ((S.put o.dst r).heap H') S') : RF P fl all (o :: l) S S'
  | skip {o : Oper} {l : List Oper} {S S' : St} (hg : gw all S.T o = some false) (hr : RF P fl all l (S.put o.dst undef) S') : RF P fl all (o :: l) S S'

theorem RF.plain {P : Program} {all : Array Oper} {l : List Oper} {S S' : St} (h : RF P false all l S S') : ROps P all l S S' := by
  induction h with
  | nil => exact .nil
  | go hg he hr ih => exact .go hg he ih
  | skip hg hr ih => exact .skip hg ih

def StepD (P : Program) (all : Array Oper) (o : Oper) (S S1 : St) : Prop :=
  (gw all S.T o = some false ∧ S1 = S.put o.dst undef) ∨ (gw all S.T o = some true ∧ ∃ r H', S1 = (S.put o.dst r).heap H' ∧ StepC P o S r H')

inductive RD (P : Program) (ops : Array Oper) : List Nat → St → St → Prop
  | nil {S : St} : RD P ops [] S S
  | go {j : Nat} {l : List Nat} {o : Oper} {S S1 S' : St} (ho : ops[j]? = some o) (h : StepD P ops o S S1) (k : RD P ops l S1 S') : RD P ops (j :: l) S S'

theorem RF.drawn {P : Program} {ops : Array Oper} : ∀ {sg : List Nat} {S S' : St}, (∀ j ∈ sg, j < ops.size) → RF P true ops (sg.map fun j => ops.getD j default) S S' → RD P ops sg S S'
  | [], S, S', _, h => by cases h; exact .nil
  | j :: sg, S, S', hj, h => by
    have hlt := hj j (by simp)
    have ho : ops[j]? = some (ops.getD j default) := by rw [Array.getD_eq_getD_getElem?, Array.getElem?_eq_getElem hlt]; rfl
    cases h with
    | go hg he hr => exact .go ho (.inr ⟨hg, _, _, rfl, he⟩) (RF.drawn (fun i hi => hj i (by simp [hi])) hr)
    | skip hg hr => exact .go ho (.inl ⟨hg, rfl⟩) (RF.drawn (fun i hi => hj i (by simp [hi])) hr)

theorem RD.states {P : Program} {ops : Array Oper} {l : List Nat} {S S' : St} (h : RD P ops l S S') :
    ∃ st : Nat → St, st 0 = S ∧ st l.length = S' ∧ ∀ p, p < l.length → ∃ o, ops[l.getD p 0]? = some o ∧ StepD P ops o (st p) (st (p + 1)) := by
  induction h with
  | nil => exact ⟨fun _ => _, rfl, rfl, fun p hp => by simp at hp⟩
  | go ho h k ih =>
    rename_i j l o S S1 S'
    obtain ⟨st, h1, h2, h3⟩ := ih
    refine ⟨fun p => if p = 0 then S else st (p - 1), rfl, ?_, fun p hp => ?_⟩
    · show (if l.length + 1 = 0 then S else st (l.length + 1 - 1)) = S'
      rw [if_neg (by omega)]; exact h2
    · cases p with
      | zero => exact ⟨o, ho, by show StepD P ops o S (if 0 + 1 = 0 then S else st (0 + 1 - 1)); rw [if_neg (by omega)]; simpa [h1] using h⟩
      | succ p =>
        obtain ⟨o', g1, g2⟩ := h3 p (by simpa using hp)
        exact ⟨o', by simpa using g1, by show StepD P ops o' (if p + 1 = 0 then S else st (p + 1 - 1)) (if p + 1 + 1 = 0 then S else st (p + 1 + 1 - 1)); rw [if_neg (by omega), if_neg (by omega)]; exact g2⟩

/-- A step whose value is r. -/
def StepR (P : Program) (all : Array Oper) (o : Oper) (S : St) (r : Value) (S1 : St) : Prop :=
  (gw all S.T o = some false ∧ r = undef ∧ S1 = S.put o.dst r) ∨ (gw all S.T o = some true ∧ ∃ H', S1 = (S.put o.dst r).heap H' ∧ StepC P o S r H')

theorem StepD.slot {P : Program} {all : Array Oper} {o : Oper} {S S1 : St} (h : StepD P all o S S1) : ∃ r, StepR P all o S r S1 := by
  rcases h with ⟨h1, h2⟩ | ⟨h1, r, H', h2, h3⟩
  · exact ⟨undef, .inl ⟨h1, rfl, h2⟩⟩
  · exact ⟨r, .inr ⟨h1, H', h2, h3⟩⟩

theorem put_T_ne {S : St} {d : Option Nat} {v : Value} {j : Nat} (h : d ≠ some j) : (S.put d v).T j = S.T j := by
  cases d with
  | none => rfl
  | some d =>
    show (if j = d then v else S.T j) = S.T j
    rw [if_neg (fun e => h (by rw [e]))]

theorem pairsOK_at {ms : List Nat} {ops : Array Oper} : ∀ {l : List Nat}, pairsOK ms ops l = true → ∀ p q, p < q → q < l.length → pairOK ms ops (l.getD p 0) (l.getD q 0) = true
  | [], _, p, q, _, hq => by simp at hq
  | i :: l, h, p, q, hpq, hq => by
    unfold pairsOK at h
    rw [Bool.and_eq_true] at h
    cases q with
    | zero => omega
    | succ q =>
      have hq' : q < l.length := by simpa using hq
      cases p with
      | zero =>
        have := List.all_eq_true.1 h.1 (l.getD q 0) (by rw [List.getD_eq_getElem?_getD, List.getElem?_eq_getElem hq']; exact List.getElem_mem hq')
        simpa using this
      | succ p => simpa using pairsOK_at h.2 p q (by omega) hq'

end Go.Proofs.Ytefmjpbmdoebaaa

/- The abstract machine, part 10: the proof that any order comes to what the followed one comes to. -/
set_option linter.unusedVariables false
set_option linter.unusedSimpArgs false
namespace Go.Proofs.Ytefmjpbmdoebaaa
open Go Go.RowKit

theorem GE.refl (H : Hp) : GE H H := ⟨Nat.le_refl _, fun _ _ => .inl rfl⟩
theorem Calm.ge {H H1 : Hp} (h : Calm H H1) : GE H H1 := ⟨h.1, fun id hi => .inl (h.2 id hi).1⟩
theorem GE.trans {H H1 H2 : Hp} (h : GE H H1) (k : GE H1 H2) : GE H H2 := ⟨Nat.le_trans h.1 k.1, fun id hi => by
  rcases k.2 id (Nat.lt_of_lt_of_le hi h.1) with h1 | h1
  · rcases h.2 id hi with h2 | h2
    · exact .inl (h1.trans h2)
    · exact .inr (h1.trans h2)
  · exact .inr h1⟩

theorem along {R : Hp → Hp → Prop} (hr : ∀ H, R H H) (ht : ∀ H H1 H2, R H H1 → R H1 H2 → R H H2) {st : Nat → St} {a : Nat} : ∀ b, a ≤ b → (∀ p, a ≤ p → p < b → R (st p).H (st (p + 1)).H) → R (st a).H (st b).H := by
  intro b
  induction b with
  | zero => intro h _; have : a = 0 := by omega
            subst this; exact hr _
  | succ b ih =>
    intro h k
    rcases Nat.lt_or_ge b a with h1 | h1
    · have : a = b + 1 := by omega
      subst this; exact hr _
    · exact ht _ _ _ (ih h1 fun p h2 h3 => k p h2 (by omega)) (k b h1 (by omega))

/-- The next operation that makes or writes memory. -/
theorem next_chain {ops : Array Oper} {op : Nat → Oper} : ∀ k a, a + k = ops.size → ∃ m, a ≤ m ∧ m ≤ ops.size ∧ (m = ops.size ∨ 3 ≤ cls (op m).op) ∧ ∀ p, a ≤ p → p < m → cls (op p).op < 3
  | 0, a, h => ⟨a, Nat.le_refl _, by omega, .inl (by omega), fun p h1 h2 => by omega⟩
  | k + 1, a, h => by
    rcases Nat.lt_or_ge (cls (op a).op) 3 with h1 | h1
    · obtain ⟨m, h2, h3, h4, h5⟩ := next_chain (ops := ops) (op := op) k (a + 1) (by omega)
      refine ⟨m, by omega, h3, h4, fun p h6 h7 => ?_⟩
      rcases Nat.lt_or_ge a p with h8 | h8
      · exact h5 p h8 h7
      · have : p = a := by omega
        subst this; exact h1
    · exact ⟨a, Nat.le_refl _, by omega, .inr h1, fun p h2 h3 => by omega⟩

/-- What is known of the followed order. -/
structure Cx (P : Program) (ops : Array Oper) (sg : List Nat) (st : Nat → St) (op : Nat → Oper) (rv : Nat → Value) : Prop where
  len : sg.length = ops.size
  lt : ∀ p, p < ops.size → sg.getD p 0 < ops.size
  on : ∀ j, j < ops.size → ∃ p, p < ops.size ∧ sg.getD p 0 = j
  at_ : ∀ p, p < ops.size → ops[sg.getD p 0]? = some (op p)
  small : ∀ p, p < ops.size → cls (op p).op ≤ 4
  names : ∀ p, p < ops.size → opOK (st 0).n ops (op p) = true
  pre : ∀ p, p < ops.size → ∀ i ∈ preds (op p), i ≠ sg.getD p 0 ∧ i < ops.size ∧ ((masks ops).getD (sg.getD p 0) 0).testBit i = true
  ne : ∀ p q, p < q → q < ops.size → sg.getD p 0 ≠ sg.getD q 0
  fwd : ∀ p q, p < q → q < ops.size → ((masks ops).getD (sg.getD p 0) 0).testBit (sg.getD q 0) = false
  pair : ∀ p q, p < q → q < ops.size → Reach ops (sg.getD p 0) (sg.getD q 0) ∨ ((op p).apart ops (op q) = true ∧ fine (cls (op p).op) (cls (op q).op) = true)
  step : ∀ p, p < ops.size → StepR P ops (op p) (st p) (rv p) (st (p + 1))

theorem Cx.of {P : Program} {ops : Array Oper} {sg : List Nat} {S S' : St} (hok : sgOK ops S.n sg = true) (h : RD P ops sg S S') :
    ∃ st op rv, Cx P ops sg st op rv ∧ st 0 = S ∧ st ops.size = S' := by
  obtain ⟨st, h0, h1, h2⟩ := h.states
  unfold sgOK at hok
  simp only [Bool.and_eq_true, beq_iff_eq] at hok
  obtain ⟨⟨⟨⟨⟨⟨k1, k2⟩, k3⟩, k4⟩, k5⟩, k6⟩, k7⟩ := hok
  rw [k1] at h1 h2
  have hat : ∀ p, p < ops.size → ops[sg.getD p 0]? = some (ops.getD (sg.getD p 0) default) := by
    intro p hp
    obtain ⟨o, h3, _⟩ := h2 p hp
    rw [Array.getD_eq_getD_getElem?, h3]; rfl
  have hst : ∀ p, p < ops.size → StepD P ops (ops.getD (sg.getD p 0) default) (st p) (st (p + 1)) := by
    intro p hp
    obtain ⟨o, h3, h4⟩ := h2 p hp
    rw [hat p hp] at h3; cases h3; exact h4
  have hlt : ∀ p, p < ops.size → sg.getD p 0 < ops.size := fun p hp => (Array.getElem?_eq_some_iff.1 (hat p hp)).1
  have hpair := fun p q (h3 : p < q) (h4 : q < ops.size) => pairsOK_at k6 p q h3 (by rw [k1]; exact h4)
  refine ⟨st, fun p => ops.getD (sg.getD p 0) default, fun p => if hp : p < ops.size then Classical.choose (hst p hp).slot else undef, ⟨k1, hlt, ?_, hat, ?_, ?_, ?_, ?_, ?_, ?_, ?_⟩, h0, h1⟩
  · intro j hj
    have h3 := List.all_eq_true.1 k3 j (List.mem_range.2 hj)
    simp only [List.contains_iff_mem] at h3
    obtain ⟨p, hp, h4⟩ := List.getElem_of_mem h3
    exact ⟨p, by rw [← k1]; exact hp, by rw [List.getD_eq_getElem?_getD, List.getElem?_eq_getElem hp, h4]; rfl⟩
  · intro p hp
    rw [Array.all_eq_true_iff_forall_mem] at k4
    exact of_decide_eq_true (k4 _ (Array.mem_of_getElem? (hat p hp)))
  · intro p hp
    rw [h0]
    exact opsOK_at k5 (hat p hp)
  · intro p hp i hi
    have h3 := List.all_eq_true.1 k7 _ (List.mem_range.2 (hlt p hp))
    rw [hat p hp] at h3
    have h4 := List.all_eq_true.1 h3 i hi
    simp only [Bool.and_eq_true, Bool.not_eq_true', beq_eq_false_iff_ne, decide_eq_true_eq] at h4
    exact ⟨h4.1.1, h4.1.2, h4.2⟩
  · intro p q h3 h4
    have := hpair p q h3 h4
    unfold pairOK at this
    simp only [Bool.and_eq_true, Bool.not_eq_true', beq_eq_false_iff_ne] at this
    exact this.1.1
  · intro p q h3 h4
    have := hpair p q h3 h4
    unfold pairOK at this
    simp only [Bool.and_eq_true, Bool.not_eq_true', beq_eq_false_iff_ne] at this
    exact this.1.2
  · intro p q h3 h4
    have := hpair p q h3 h4
    unfold pairOK at this
    rw [hat p (by omega), hat q h4] at this
    simp only [Bool.and_eq_true, Bool.or_eq_true] at this
    rcases this.2 with h5 | h5
    · exact .inl (masks_ok h5)
    · exact .inr h5
  · intro p hp
    simp only [hp, dif_pos]
    exact Classical.choose_spec (hst p hp).slot

section
variable {P : Program} {ops : Array Oper} {sg : List Nat} {st : Nat → St} {op : Nat → Oper} {rv : Nat → Value} (cx : Cx P ops sg st op rv)
include cx

theorem Cx.val {p : Nat} (hp : p < ops.size) : (∀ d, (st (p + 1)).T d = ((st p).put (op p).dst (rv p)).T d) ∧ (st (p + 1)).n = (st p).n := by
  rcases cx.step p hp with ⟨_, _, h⟩ | ⟨_, H', h, k⟩
  · rw [h]; exact ⟨fun _ => rfl, put_n _ _ _⟩
  · rw [h]; exact ⟨fun _ => rfl, put_n _ _ _⟩

theorem Cx.n_eq : ∀ p, p ≤ ops.size → (st p).n = (st 0).n := by
  intro p
  induction p with
  | zero => intro _; rfl
  | succ p ih => intro h; rw [(cx.val (p := p) (by omega)).2, ih (by omega)]

theorem Cx.calm {p : Nat} (hp : p < ops.size) (hc : cls (op p).op < 3) : Calm (st p).H (st (p + 1)).H := by
  rcases cx.step p hp with ⟨_, _, h⟩ | ⟨_, H', h, k⟩
  · rw [h, put_H]; exact .refl _
  · have e : (st (p + 1)).H = H' := by rw [h]; rfl
    rw [e]
    unfold StepC at k
    split at k
    · rw [k.1]; exact .refl _
    · obtain ⟨ob, f, k1, _⟩ := k
      rw [k1]
      exact Calm.new _ _
    · rw [k.1]; exact .refl _
    all_goals first | omega | exact k.elim

theorem Cx.grow {p : Nat} (hp : p < ops.size) : (st p).H.nxt ≤ (st (p + 1)).H.nxt := by
  rcases cx.step p hp with ⟨_, _, h⟩ | ⟨_, H', h, k⟩
  · rw [h, put_H]; exact Nat.le_refl _
  · have e : (st (p + 1)).H = H' := by rw [h]; rfl
    rw [e]
    unfold StepC at k
    split at k
    · rw [k.1]; exact Nat.le_refl _
    · obtain ⟨ob, f, k1, _⟩ := k
      rw [k1]
      exact Nat.le_succ _
    · rw [k.1]; exact Nat.le_refl _
    · exact k.2.1
    · exact k.2
    · exact k.elim

theorem Cx.ge {p : Nat} (hp : p < ops.size) (hc : cls (op p).op ≠ 4) : GE (st p).H (st (p + 1)).H := by
  have hs := cx.small p hp
  rcases Nat.lt_or_ge (cls (op p).op) 3 with h1 | h1
  · exact (cx.calm hp h1).ge
  · rcases cx.step p hp with ⟨_, _, h⟩ | ⟨_, H', h, k⟩
    · rw [h, put_H]; exact .refl _
    · have e : (st (p + 1)).H = H' := by rw [h]; rfl
      rw [e]
      unfold StepC at k
      rw [show cls (op p).op = 3 by omega] at k
      exact k.2

theorem Cx.grows {a b : Nat} (h : a ≤ b) (hb : b ≤ ops.size) : (st a).H.nxt ≤ (st b).H.nxt :=
  along (R := fun H H' => H.nxt ≤ H'.nxt) (fun _ => Nat.le_refl _) (fun _ _ _ h k => Nat.le_trans h k) b h (fun p _ h2 => cx.grow (by omega))

theorem Cx.calms {a b : Nat} (h : a ≤ b) (hb : b ≤ ops.size) (hc : ∀ p, a ≤ p → p < b → cls (op p).op < 3) : Calm (st a).H (st b).H :=
  along Calm.refl (fun _ _ _ => Calm.trans) b h (fun p h1 h2 => cx.calm (by omega) (hc p h1 h2))

theorem Cx.ges {a b : Nat} (h : a ≤ b) (hb : b ≤ ops.size) (hc : ∀ p, a ≤ p → p < b → cls (op p).op ≠ 4) : GE (st a).H (st b).H :=
  along GE.refl (fun _ _ _ => GE.trans) b h (fun p h1 h2 => cx.ge (by omega) (hc p h1 h2))

end

/-- Is the operation at a position of the followed order done? -/
def Dn (sg : List Nat) (listed : Array Bool) (p : Nat) : Prop := listed.getD (sg.getD p 0) true = true

structure DI (P : Program) (ops : Array Oper) (sg : List Nat) (st : Nat → St) (op : Nat → Oper) (B : Nat) (β0 : Bm) (w0 : World) (listed : Array Bool) (m : Nat) (β : Bm) (a : Act) (w : World) : Prop where
  size : listed.size = ops.size
  down : ∀ p, p < ops.size → Dn sg listed p → ∀ i ∈ preds (op p), listed.getD i true = true
  tsz : a.tmps.size = (st 0).n
  slots : ∀ i, i < (st 0).n → ∀ p, p ≤ ops.size → (∀ p', p' < p → (op p').dst = some i → Dn sg listed p') → (∀ p', p ≤ p' → p' < ops.size → (op p').dst = some i → ¬ Dn sg listed p') → VR β ((st p).T i) (a.tmps.getD i undef)
  mle : m ≤ ops.size
  mlow : ∀ p, p < m → 3 ≤ cls (op p).op → Dn sg listed p
  mhigh : ∀ p, m ≤ p → p < ops.size → 3 ≤ cls (op p).op → ¬ Dn sg listed p
  mat : m = ops.size ∨ 3 ≤ cls (op m).op
  hr : HR B β (st m).H w
  fr : Fr B β0 (st 0).H w0 β (st m).H w
  fresh : ∀ p, p < ops.size → cls (op p).op = 1 → (st p).H.nxt < (st (p + 1)).H.nxt → ¬ Dn sg listed p → β (st p).H.nxt = none
  defer : a.defers = []

section
variable {P : Program} {ops : Array Oper} {sg : List Nat} {st : Nat → St} {op : Nat → Oper} {rv : Nat → Value} {B : Nat} {β0 : Bm} {w0 : World} {listed : Array Bool} {m : Nat} {β : Bm} {a : Act} {w : World}
  (cx : Cx P ops sg st op rv) (d : DI P ops sg st op B β0 w0 listed m β a w)
include cx d

theorem DI.reach {i j : Nat} (h : Reach ops i j) : listed.getD j true = true → j < ops.size → listed.getD i true = true := by
  have one : ∀ j o, ops[j]? = some o → listed.getD j true = true → j < ops.size → ∀ i ∈ preds o, listed.getD i true = true := by
    intro j o ho hl hj i hi
    obtain ⟨p, hp, rfl⟩ := cx.on j hj
    rw [cx.at_ p hp] at ho; cases ho
    exact d.down p hp hl i hi
  induction h with
  | edge ho h => exact fun h1 h2 => one _ _ ho h1 h2 _ h
  | step ho h k ih =>
    intro h1 h2
    refine ih (one _ _ ho h1 h2 _ h) ?_
    obtain ⟨q, hq, e⟩ := cx.on _ h2
    subst e
    rw [cx.at_ q hq] at ho; cases ho
    exact (cx.pre q hq _ h).2.1

/-- A position that may come next. -/
theorem DI.ahead {q : Nat} (hq : q < ops.size) (hn : ¬ Dn sg listed q) (hp : ∀ i ∈ preds (op q), listed.getD i true = true) {p : Nat} (hpq : p < q) (hnp : ¬ Dn sg listed p) : (op p).apart ops (op q) = true ∧ fine (cls (op p).op) (cls (op q).op) = true := by
  rcases cx.pair p q hpq hq with h | h
  · exfalso
    apply hnp
    unfold Dn
    cases h with
    | edge ho h => rw [cx.at_ q hq] at ho; cases ho; exact hp _ h
    | step ho h k =>
      rw [cx.at_ q hq] at ho; cases ho
      exact d.reach cx k (hp _ h) (cx.pre q hq _ h).2.1
  · exact h

theorem DI.behind {q : Nat} (hn : ¬ Dn sg listed q) {p : Nat} (hp : p < ops.size) (hpq : q < p) (hd : Dn sg listed p) : (op q).apart ops (op p) = true ∧ fine (cls (op q).op) (cls (op p).op) = true := by
  rcases cx.pair q p hpq hp with h | h
  · exact absurd (d.reach cx h hd (cx.lt p hp)) hn
  · exact h

/-- The slots at which an operation looks are as in the followed order. -/
theorem DI.looks {q : Nat} (hq : q < ops.size) (hn : ¬ Dn sg listed q) (hp : ∀ i ∈ preds (op q), listed.getD i true = true) {t : Nat} (ht : t ∈ (op q).looksAt ops) (htn : t < (st 0).n) : VR β ((st q).T t) (a.tmps.getD t undef) := by
  refine d.slots t htn q (by omega) (fun p hpq hd => Classical.byContradiction fun hnp => ?_) (fun p hpq hp' hd hD => ?_)
  · exact (Oper.apart_spec (d.ahead cx hq hn hp hpq hnp).1).1 t hd ht
  · rcases Nat.lt_or_ge q p with h | h
    · exact (Oper.apart_spec (d.behind cx hn hp' h hD).1).2.2 t hd ht
    · have : p = q := by omega
      subst this; exact hn hD

theorem DI.fake {q : Nat} (hq : q < ops.size) (hn : ¬ Dn sg listed q) (hp : ∀ i ∈ preds (op q), listed.getD i true = true) : TR β ⟨(st 0).n, fun t => if t ∈ (op q).looksAt ops then (st q).T t else junk, (st q).H⟩ a := by
  refine ⟨d.tsz, fun i hi => ?_⟩
  show VR β (if i ∈ (op q).looksAt ops then (st q).T i else junk) _
  split
  · exact d.looks cx hq hn hp (by assumption) hi
  · exact .any _

theorem DI.guard {q : Nat} (hq : q < ops.size) (hn : ¬ Dn sg listed q) (hp : ∀ i ∈ preds (op q), listed.getD i true = true) {b : Bool} (h : gw ops (st q).T (op q) = some b) : Region.wanted (op q) (yielded ops a.tmps) = b := by
  have hnm := cx.names q hq
  unfold opOK at hnm
  simp only [Bool.and_eq_true] at hnm
  refine gw_sound (S := ⟨(st 0).n, fun t => if t ∈ (op q).looksAt ops then (st q).T t else junk, (st q).H⟩) (d.fake cx hq hn hp) ?_ ?_
  · intro d' hd'
    have h3 := hnm.2
    cases hx : (op q).guard.bind (fun g => (ops[g.1]?).bind (·.dst)) with
    | none => rw [hx] at hd'; cases hd'
    | some y => rw [hx] at hd' h3; cases hd'; simpa using h3
  · rw [← h]
    unfold gw
    cases hg : (op q).guard with
    | none => rfl
    | some g =>
      obtain ⟨j, want⟩ := g
      cases hj : (ops[j]?).bind (·.dst) with
      | none => simp only [hj]
      | some d' =>
        simp only [hj]
        rw [if_pos (by unfold Oper.looksAt; rw [hg]; simp [hj])]

theorem DI.opnds {q : Nat} (hq : q < ops.size) (hn : ¬ Dn sg listed q) (hp : ∀ i ∈ preds (op q), listed.getD i true = true) : ∀ x ∈ (op q).op.operands, VR β ((st q).rho x) (a.eval x) := by
  intro x hx
  have hnm := cx.names q hq
  unfold opOK at hnm
  simp only [Bool.and_eq_true] at hnm
  have h1 := hnm.1.1
  rw [Array.all_eq_true_iff_forall_mem] at h1
  have h2 := (d.fake cx hq hn hp).eval (x := x) (h1 x hx)
  have e : St.rho ⟨(st 0).n, fun t => if t ∈ (op q).looksAt ops then (st q).T t else junk, (st q).H⟩ x = (st q).rho x := by
    cases x with
    | tmp t =>
      show (if t ∈ (op q).looksAt ops then (st q).T t else junk) = (st q).T t
      rw [if_pos]
      unfold Oper.looksAt
      exact List.mem_append_left _ (List.mem_filterMap.2 ⟨.tmp t, by simpa using hx, rfl⟩)
    | _ => rfl
  rw [e] at h2
  exact h2

/-- The slots behind an operation. -/
theorem DI.slots' {q : Nat} (hq : q < ops.size) (hn : ¬ Dn sg listed q) {β' : Bm} (hβ : ∀ id p, β id = some p → β' id = some p) {u : Value} (hu : VR β' (rv q) u) :
    ∀ i, i < (st 0).n → ∀ p, p ≤ ops.size → (∀ p', p' < p → (op p').dst = some i → Dn sg (listed.setIfInBounds (sg.getD q 0) true) p') → (∀ p', p ≤ p' → p' < ops.size → (op p').dst = some i → ¬ Dn sg (listed.setIfInBounds (sg.getD q 0) true) p') → VR β' ((st p).T i) ((a.put (op q).dst u).tmps.getD i undef) := by
  have hql := cx.lt q hq
  have hset : ∀ p, p < ops.size → p ≠ q → (Dn sg (listed.setIfInBounds (sg.getD q 0) true) p ↔ Dn sg listed p) := by
    intro p hp hne
    unfold Dn
    have : sg.getD q 0 ≠ sg.getD p 0 := by
      rcases Nat.lt_or_gt_of_ne hne with h | h
      · exact (cx.ne p q h hq).symm
      · exact cx.ne q p h hp
    rw [Array.getD_eq_getD_getElem?, Array.getElem?_setIfInBounds_ne this, ← Array.getD_eq_getD_getElem?]
  have hself : Dn sg (listed.setIfInBounds (sg.getD q 0) true) q := by
    unfold Dn
    rw [Array.getD_eq_getD_getElem?, Array.getElem?_setIfInBounds_self_of_lt (by rw [d.size]; exact hql)]; rfl
  intro i hi p hp h1 h2
  by_cases e : (op q).dst = some i
  · have hqp : q < p := by
      rcases Nat.lt_or_ge q p with h | h
      · exact h
      · exact absurd hself (h2 q h hq e)
    have hT : ∀ p', q < p' → p' ≤ p → (st p').T i = rv q := by
      intro p'
      induction p' with
      | zero => intro h; omega
      | succ p' ih =>
        intro h3 h4
        rw [(cx.val (p := p') (by omega)).1]
        rcases Nat.lt_or_ge q p' with h5 | h5
        · have hne : (op p').dst ≠ some i := by
            intro e'
            have h6 := (hset p' (by omega) (by omega)).1 (h1 p' (by omega) e')
            exact (Oper.apart_spec (d.behind cx hn (by omega) h5 h6).1).2.1 i e e'
          rw [put_T_ne hne]
          exact ih h5 (by omega)
        · have : p' = q := by omega
          subst this
          rw [e]
          exact if_pos rfl
    rw [hT p hqp (Nat.le_refl _), e]
    have : i < a.tmps.size := by rw [d.tsz]; exact hi
    have e2 : ((a.put (some i) u).tmps.getD i undef) = u := by simp [Act.put, Array.getD_eq_getD_getElem?, this]
    rw [e2]; exact hu
  · have e2 : ((a.put (op q).dst u).tmps.getD i undef) = a.tmps.getD i undef := by
      cases hd : (op q).dst with
      | none => rfl
      | some d' =>
        have : d' ≠ i := fun h => e (by rw [hd, h])
        simp [Act.put, Array.getD_eq_getD_getElem?, Array.getElem?_setIfInBounds_ne this]
    rw [e2]
    refine (d.slots i hi p hp (fun p' h3 h4 => ?_) (fun p' h3 h3' h4 h5 => ?_)).mono hβ
    · by_cases e3 : p' = q
      · subst e3; exact absurd h4 e
      · exact (hset p' (by omega) e3).1 (h1 p' h3 h4)
    · by_cases e3 : p' = q
      · subst e3; exact absurd h4 e
      · exact h2 p' h3 h3' h4 ((hset p' h3' e3).2 h5)

/-- One more operation is done. -/
theorem DI.adv {q : Nat} (hq : q < ops.size) (hn : ¬ Dn sg listed q) (hp : ∀ i ∈ preds (op q), listed.getD i true = true) {β' : Bm} {w' : World} {m' : Nat} (hβ : ∀ id p, β id = some p → β' id = some p) {u : Value} (hu : VR β' (rv q) u)
    (hm : (cls (op q).op < 3 ∧ m' = m) ∨ (q = m ∧ m < m' ∧ m' ≤ ops.size ∧ (m' = ops.size ∨ 3 ≤ cls (op m').op) ∧ ∀ p, m + 1 ≤ p → p < m' → cls (op p).op < 3))
    (hr : HR B β' (st m').H w') (hf : Fr B β0 (st 0).H w0 β' (st m').H w')
    (hfr : ∀ p, p < ops.size → p ≠ q → cls (op p).op = 1 → (st p).H.nxt < (st (p + 1)).H.nxt → ¬ Dn sg listed p → β' (st p).H.nxt = none) :
    DI P ops sg st op B β0 w0 (listed.setIfInBounds (sg.getD q 0) true) m' β' (a.put (op q).dst u) w' := by
  have hql := cx.lt q hq
  have hset : ∀ p, p < ops.size → p ≠ q → (Dn sg (listed.setIfInBounds (sg.getD q 0) true) p ↔ Dn sg listed p) := by
    intro p hp hne
    unfold Dn
    have : sg.getD q 0 ≠ sg.getD p 0 := by
      rcases Nat.lt_or_gt_of_ne hne with h | h
      · exact (cx.ne p q h hq).symm
      · exact cx.ne q p h hp
    rw [Array.getD_eq_getD_getElem?, Array.getElem?_setIfInBounds_ne this, ← Array.getD_eq_getD_getElem?]
  have hself : Dn sg (listed.setIfInBounds (sg.getD q 0) true) q := by
    unfold Dn
    rw [Array.getD_eq_getD_getElem?, Array.getElem?_setIfInBounds_self_of_lt (by rw [d.size]; exact hql)]; rfl
  have hup : ∀ j, listed.getD j true = true → (listed.setIfInBounds (sg.getD q 0) true).getD j true = true := by
    intro j hj
    by_cases e : sg.getD q 0 = j
    · rw [← e]; exact hself
    · rw [Array.getD_eq_getD_getElem?, Array.getElem?_setIfInBounds_ne e, ← Array.getD_eq_getD_getElem?]; exact hj
  refine ⟨by rw [Array.size_setIfInBounds]; exact d.size, ?_, ?_, d.slots' cx hq hn hβ hu, ?_, ?_, ?_, ?_, hr, hf, ?_, ?_⟩
  · intro p hpp hD i hi
    by_cases e : p = q
    · subst e; exact hup _ (hp i hi)
    · exact hup _ (d.down p hpp ((hset p hpp e).1 hD) i hi)
  · cases (op q).dst <;> simp [Act.put, d.tsz]
  · rcases hm with ⟨_, rfl⟩ | ⟨_, _, h, _⟩
    · exact d.mle
    · exact h
  · intro p h1 h2
    by_cases e : p = q
    · subst e; exact hself
    · have hmle := d.mle
      rcases hm with ⟨h3, rfl⟩ | ⟨h3, h4, h5, h6, h7⟩
      · exact (hset p (by omega) e).2 (d.mlow p h1 h2)
      · rcases Nat.lt_or_ge p m with h8 | h8
        · exact (hset p (by omega) e).2 (d.mlow p h8 h2)
        · have := h7 p (by omega) h1; omega
  · intro p h1 h2 h3
    by_cases e : p = q
    · subst e
      rcases hm with ⟨h4, _⟩ | ⟨h4, h5, _⟩ <;> omega
    · rw [hset p h2 e]
      refine d.mhigh p ?_ h2 h3
      rcases hm with ⟨h4, rfl⟩ | ⟨h4, h5, _⟩ <;> omega
  · rcases hm with ⟨_, rfl⟩ | ⟨_, _, _, h, _⟩
    · exact d.mat
    · exact h
  · intro p h1 h2 h3 h4
    by_cases e : p = q
    · subst e; exact absurd hself h4
    · exact hfr p h1 e h2 h3 (fun h => h4 ((hset p h1 e).2 h))
  · rw [put_defers]; exact d.defer

/-- When nothing may come next, everything is done. -/
theorem DI.all (hr : Region.ready .any ops listed = []) : ∀ p, p < ops.size → Dn sg listed p := by
  intro p
  induction p using Nat.strongRecOn with
  | ind p ih =>
    intro hp
    refine Classical.byContradiction fun hn => ?_
    have : sg.getD p 0 ∈ Region.ready .any ops listed := by
      rw [mem_ready]
      refine ⟨by simpa [Dn] using hn, op p, cx.at_ p hp, fun e he hb => ?_⟩
      have hi : e.on ∈ preds (op p) := by
        unfold preds
        exact List.mem_map.2 ⟨e, List.mem_filter.2 ⟨by simpa using he, hb⟩, rfl⟩
      obtain ⟨h1, h2, h3⟩ := cx.pre p hp _ hi
      obtain ⟨r, h4, h5⟩ := cx.on _ h2
      have hrp : r < p := by
        rcases Nat.lt_trichotomy r p with h | h | h
        · exact h
        · subst h; exact absurd h5.symm h1
        · have := cx.fwd p r h h4
          rw [h5, h3] at this; cases this
      have h6 := ih r hrp h4
      unfold Dn at h6
      rw [h5] at h6
      have h7 : e.on < listed.size := by rw [d.size]; exact h2
      rw [Array.getD_eq_getD_getElem?, Array.getElem?_eq_getElem h7] at h6 ⊢
      exact h6
    rw [hr] at this; cases this

/-- An operation that may come next is carried out. -/
theorem DI.one {q : Nat} (hq : q < ops.size) (hn : ¬ Dn sg listed q) (hp : ∀ i ∈ preds (op q), listed.getD i true = true) {Q : Exit → Act → World → Prop} {K : Act → World → Prop}
    (hK : ∀ m' β' a' w', DI P ops sg st op B β0 w0 (listed.setIfInBounds (sg.getD q 0) true) m' β' a' w' → K a' w') : wpOp P ops Q (sg.getD q 0) K a w := by
  have hst := cx.step q hq
  have hopn := d.opnds cx hq hn hp
  have hmle := d.mle
  unfold wpOp
  rw [cx.at_ q hq]
  simp only
  -- a chain operation comes at m
  have hchain : 3 ≤ cls (op q).op → q = m := by
    intro hc
    rcases Nat.lt_trichotomy q m with h | h | h
    · exact absurd (d.mlow q h hc) hn
    · exact h
    · rcases d.mat with h1 | h1
      · omega
      · have h2 := (d.ahead cx hq hn hp h (d.mhigh m (Nat.le_refl _) (by omega) h1)).2
        exfalso
        unfold fine at h2
        simp only [Bool.not_eq_true', Bool.or_eq_false_iff, Bool.and_eq_false_iff, decide_eq_false_iff_not, beq_eq_false_iff_ne] at h2
        omega
  have hkeep : ∀ p, p < ops.size → p ≠ q → cls (op p).op = 1 → (st p).H.nxt < (st (p + 1)).H.nxt → ¬ Dn sg listed p → β (st p).H.nxt = none := fun p h1 _ h2 h3 h4 => d.fresh p h1 h2 h3 h4
  rcases hst with ⟨hg, hv, hS⟩ | ⟨hg, H', hS, hC⟩
  · rw [d.guard cx hq hn hp hg]
    simp only [Bool.false_eq_true, if_false]
    have hH : (st (q + 1)).H = (st q).H := by rw [hS, put_H]
    rcases Nat.lt_or_ge (cls (op q).op) 3 with hc | hc
    · exact hK m β _ _ (d.adv cx hq hn hp (fun _ _ h => h) (by rw [hv]; exact VR.undef) (.inl ⟨hc, rfl⟩) d.hr d.fr hkeep)
    · obtain rfl := hchain hc
      obtain ⟨m', h1, h2, h3, h4⟩ := next_chain (ops := ops) (op := op) (ops.size - (q + 1)) (q + 1) (by omega)
      have hcm := cx.calms h1 h2 h4
      rw [hH] at hcm
      exact hK m' β _ _ (d.adv cx hq hn hp (fun _ _ h => h) (by rw [hv]; exact VR.undef) (.inr ⟨rfl, by omega, h2, h3, h4⟩) (d.hr.more hcm) (d.fr.more hcm) hkeep)
  · rw [d.guard cx hq hn hp hg]
    simp only [if_true]
    refine .inl ?_
    have hH : (st (q + 1)).H = H' := by rw [hS]; rfl
    unfold StepC at hC
    split at hC
    · rename_i hc
      refine hC.2 (st m).H B β a w hopn d.hr K Q fun β' u w' h1 h2 h3 => ?_
      refine hK m β' _ _ (d.adv cx hq hn hp (h3.ext d.hr) h1 (.inl ⟨by omega, rfl⟩) h2 (d.fr.trans h3) fun p k1 k2 k3 k4 k5 => ?_)
      have k6 := hkeep p k1 k2 k3 k4 k5
      rcases Nat.lt_or_ge (st p).H.nxt (st m).H.nxt with h | h
      · rw [h3.old _ h]; exact k6
      · exact h2.dom _ h
    · rename_i hc
      obtain ⟨ob, f, k1, k2, k3⟩ := hC
      have hqm : q < m := by
        rcases Nat.lt_or_ge q m with h | h
        · exact h
        · exfalso
          rcases d.mat with h1 | h1
          · omega
          · have hne : m ≠ q := fun e => by rw [e] at h1; omega
            have h2 := (d.ahead cx hq hn hp (show m < q by omega) (d.mhigh m (Nat.le_refl _) (by omega) h1)).2
            unfold fine at h2
            simp only [Bool.not_eq_true', Bool.or_eq_false_iff, Bool.and_eq_false_iff, decide_eq_false_iff_not, beq_eq_false_iff_ne] at h2
            omega
      have hnx : (st (q + 1)).H.nxt = (st q).H.nxt + 1 := by rw [hH, k1]; rfl
      have hge := cx.ges (a := q + 1) (b := m) (by omega) d.mle fun p h1 h2 h3 => by
        have h4 := (d.behind cx hn (by omega) (by omega) (d.mlow p h2 (by omega))).2
        unfold fine at h4
        simp only [Bool.not_eq_true', Bool.or_eq_false_iff, Bool.and_eq_false_iff, decide_eq_false_iff_not, beq_eq_false_iff_ne] at h4
        omega
      have hN : (st q).H.nxt < (st m).H.nxt := by have := hge.1; omega
      have hβN := d.fresh q hq hc (by omega) hn
      have hob : ∀ ob', (st m).H.get (st q).H.nxt = some ob' → ob' = ob := by
        intro ob' h1
        have h3 : (st (q + 1)).H.get (st q).H.nxt = some ob := by rw [hH, k1]; exact Hp.new_get _ _
        rcases hge.2 (st q).H.nxt (by omega) with h2 | h2
        · rw [h2, h3] at h1; cases h1; rfl
        · rw [h2] at h1; cases h1
      obtain ⟨u, w', g, K1, cur, e1, e2, e3, e4, e5, e6, e7, e8⟩ := k3.2 β a w hopn
      unfold Oper.wp
      rw [e1]
      obtain ⟨p1, p2⟩ := d.hr.place ob k3.1 hN hβN hob e2 e3 e4 e5 e6 e7
      have h0q := cx.grows (a := 0) (b := q) (by omega) (by omega)
      refine hK m _ _ _ (d.adv cx hq hn hp p2 (by rw [k2]; exact e8 _ _ (Bm.set_at _ _ _)) (.inl ⟨by omega, rfl⟩) p1 (d.fr.place d.hr.base h0q e2) fun p h1 h2 h3 h4 h5 => ?_)
      rw [Bm.set_ne]
      · exact d.fresh p h1 h3 h4 h5
      · rcases Nat.lt_or_gt_of_ne h2 with h | h
        · have := cx.grows (a := p + 1) (b := q) (by omega) (by omega); omega
        · have := cx.grows (a := q + 1) (b := p) (by omega) (by omega); omega
    · rename_i hc
      obtain ⟨k1, id, ob, k2, k3, k4⟩ := hC
      obtain ⟨pl, k5⟩ := k3 β a.eval hopn
      have hid := d.hr.lt k5
      have hget : (st m).H.get id = some ob := by
        rcases Nat.lt_or_ge q m with h | h
        · have hcm := cx.calms (a := q) (b := m) (by omega) d.mle fun p h1 h2 => by
            rcases Nat.lt_or_ge (cls (op p).op) 3 with h3 | h3
            · exact h3
            · exfalso
              have hne : p ≠ q := fun e => by subst e; omega
              have h4 := (d.behind cx hn (by omega) (by omega) (d.mlow p h2 h3)).2
              unfold fine at h4
              simp only [Bool.not_eq_true', Bool.or_eq_false_iff, Bool.and_eq_false_iff, decide_eq_false_iff_not, beq_eq_false_iff_ne] at h4
              omega
          rw [(hcm.2 id (Hp.lt k2)).1]; exact k2
        · have hge := cx.ges (a := m) (b := q) h (by omega) fun p h1 h2 h3 => by
            have h4 := (d.ahead cx hq hn hp h2 (d.mhigh p h1 (by omega) (by omega))).2
            unfold fine at h4
            simp only [Bool.not_eq_true', Bool.or_eq_false_iff, Bool.and_eq_false_iff, decide_eq_false_iff_not, beq_eq_false_iff_ne] at h4
            omega
          rcases hge.2 id hid with h5 | h5
          · rw [← h5]; exact k2
          · rw [h5] at k2; cases k2
      refine k4 (st m).H hget B β a w hopn d.hr K Q fun β' u w' h1 h2 h3 => ?_
      refine hK m β' _ _ (d.adv cx hq hn hp (h3.ext d.hr) h1 (.inl ⟨by omega, rfl⟩) h2 (d.fr.trans h3) fun p k1 k2 k3 k4 k5 => ?_)
      have k6 := hkeep p k1 k2 k3 k4 k5
      rcases Nat.lt_or_ge (st p).H.nxt (st m).H.nxt with h | h
      · rw [h3.old _ h]; exact k6
      · exact h2.dom _ h
    all_goals first
      | exact hC.elim
      | (rename_i hc
         have hqm := hchain (by omega)
         subst hqm
         obtain ⟨m', h1, h2, h3, h4⟩ := next_chain (ops := ops) (op := op) (ops.size - (q + 1)) (q + 1) (by omega)
         have hcm := cx.calms h1 h2 h4
         rw [hH] at hcm
         refine hC.1 B β a w hopn d.hr K Q fun β' u w' g1 g2 g3 => ?_
         refine hK m' β' _ _ (d.adv cx hq hn hp (g3.ext d.hr) g1 (.inr ⟨rfl, by omega, h2, h3, h4⟩) (g2.more hcm) ((d.fr.trans g3).more hcm) fun p k1 k2 k3 k4 k5 => ?_)
         have k6 := hkeep p k1 k2 k3 k4 k5
         rcases Nat.lt_or_ge (st p).H.nxt (st q).H.nxt with h | h
         · rw [g3.old _ h]; exact k6
         · have h7 : q < p := by
             rcases Nat.lt_or_ge q p with h8 | h8
             · exact h8
             · have := cx.grows (a := p + 1) (b := q) (by omega) (by omega); omega
           refine g2.dom _ ?_
           rw [← hH]
           exact cx.grows (a := q + 1) (b := p) h7 (by omega))

end

theorem DI.run {P : Program} {ops : Array Oper} {sg : List Nat} {st : Nat → St} {op : Nat → Oper} {rv : Nat → Value} {B : Nat} {β0 : Bm} {w0 : World} (cx : Cx P ops sg st op rv) {Q : Exit → Act → World → Prop}
    (hQ : ∀ β a w, TR β (st ops.size) a → HR B β (st ops.size).H w → Fr B β0 (st 0).H w0 β (st ops.size).H w → a.defers = [] → Q .normal a w) :
    ∀ (fuel : Nat) (U : List Nat) (listed : Array Bool) (m : Nat) (β : Bm) (a : Act) (w : World), U.length ≤ fuel → (∀ i, i < ops.size → listed.getD i true = false → i ∈ U) → DI P ops sg st op B β0 w0 listed m β a w → wpAny P .any ops Q fuel listed a w := by
  have fin : ∀ (listed : Array Bool) (m : Nat) (β : Bm) (a : Act) (w : World), DI P ops sg st op B β0 w0 listed m β a w → Region.ready .any ops listed = [] → Q .normal a w := by
    intro listed m β a w d hr
    have hall := d.all cx hr
    have hm : m = ops.size := by
      rcases d.mat with h | h
      · exact h
      · refine Classical.byContradiction fun hne => ?_
        have := d.mle
        exact d.mhigh m (Nat.le_refl _) (by omega) h (hall m (by omega))
    have hr' := d.hr
    have hf' := d.fr
    rw [hm] at hr' hf'
    refine hQ β a w ⟨by rw [cx.n_eq _ (Nat.le_refl _)]; exact d.tsz, fun i hi => ?_⟩ hr' hf' d.defer
    rw [cx.n_eq _ (Nat.le_refl _)] at hi
    exact d.slots i hi ops.size (Nat.le_refl _) (fun p' h _ => hall p' h) (fun p' h1 h2 => by omega)
  intro fuel
  induction fuel with
  | zero =>
    intro U listed m β a w hU hin d
    have hr : Region.ready .any ops listed = [] := by
      cases h : Region.ready .any ops listed with
      | nil => rfl
      | cons j l =>
        have hj : j ∈ Region.ready .any ops listed := by rw [h]; simp
        obtain ⟨h1, o, h2, _⟩ := mem_ready.1 hj
        have h3 := hin j (Array.getElem?_eq_some_iff.1 h2).1 h1
        rw [List.length_eq_zero_iff.1 (Nat.le_zero.1 hU)] at h3; cases h3
    exact ⟨hr, fin _ _ _ _ _ d hr⟩
  | succ fuel ih =>
    intro U listed m β a w hU hin d
    refine ⟨fin _ _ _ _ _ d, fun j hj => ?_⟩
    obtain ⟨h1, o, h2, h3⟩ := mem_ready.1 hj
    have hlt := (Array.getElem?_eq_some_iff.1 h2).1
    obtain ⟨q, hq, rfl⟩ := cx.on j hlt
    rw [cx.at_ q hq] at h2; cases h2
    have hn : ¬ Dn sg listed q := by unfold Dn; rw [h1]; simp
    refine d.one cx hq hn (fun i hi => ?_) fun m' β' a' w' d' => ?_
    · unfold preds at hi
      obtain ⟨e, he, rfl⟩ := List.mem_map.1 hi
      obtain ⟨he1, he2⟩ := List.mem_filter.1 he
      have h4 := h3 e (by simpa using he1) he2
      have h5 : e.on < listed.size := by
        refine Classical.byContradiction fun hc => ?_
        rw [Array.getD_eq_getD_getElem?, Array.getElem?_eq_none (by omega)] at h4; cases h4
      rw [Array.getD_eq_getD_getElem?, Array.getElem?_eq_getElem h5] at h4 ⊢
      exact h4
    · have hmem := hin _ hlt h1
      refine ih (U.erase (sg.getD q 0)) _ m' β' a' w' (by rw [List.length_erase_of_mem hmem]; omega) (fun i hi hl => ?_) d'
      by_cases e : sg.getD q 0 = i
      · subst e
        rw [Array.getD_eq_getD_getElem?, Array.getElem?_setIfInBounds_self_of_lt (by rw [d.size]; exact hlt)] at hl
        cases hl
      · rw [Array.getD_eq_getD_getElem?, Array.getElem?_setIfInBounds_ne e, ← Array.getD_eq_getD_getElem?] at hl
        exact (List.mem_erase_of_ne (Ne.symm e)).2 (hin i hi hl)

/-- A statement whose operations may be carried out in several orders: one of them is followed. -/
theorem Sem.region_draw {P : Program} {id : Nat} {ops : Array Oper} {S S' : St} (hm : P.follows .mixedOrders = true) (sg : List Nat) (hok : sgOK ops S.n sg = true) (h : RD P ops sg S S') : Sem P (.region id ops true) S .normal S' := by
  intro B β a w ht hr hd
  obtain ⟨st, op, rv, cx, h0, h1⟩ := Cx.of hok h
  subst h0
  refine wp_region_any hm ?_
  obtain ⟨m, k1, k2, k3, k4⟩ := next_chain (ops := ops) (op := op) ops.size 0 (by omega)
  have hcm := cx.calms k1 k2 k4
  have hrep : ∀ j, (Array.replicate ops.size false).getD j true = true → ops.size ≤ j := by
    intro j hj
    rcases Nat.lt_or_ge j ops.size with h | h
    · rw [Array.getD_eq_getD_getElem?, Array.getElem?_replicate] at hj
      simp [h] at hj
    · exact h
  have hnd : ∀ p, p < ops.size → ¬ Dn sg (Array.replicate ops.size false) p := fun p hp hD => by
    have := hrep _ hD
    have := cx.lt p hp
    omega
  have hr1 : HR B β (st 0).H { w with drawn := w.drawn + 1 } := ⟨hr.dom, hr.blk, hr.cell, hr.siz, hr.own, hr.inj, hr.base, hr.mp, hr.mpi⟩
  have hf1 : Fr B β (st 0).H w β (st 0).H { w with drawn := w.drawn + 1 } := ⟨fun _ _ => rfl, ⟨rfl, rfl, rfl, Nat.le_refl _, fun _ _ => rfl⟩, Nat.le_refl _⟩
  refine DI.run cx (B := B) (β0 := β) (w0 := w) (fun β' a' w' g1 g2 g3 g4 => ?_) ops.size (List.range ops.size) _ m β a _ (by simp) (fun i hi _ => List.mem_range.2 hi) ⟨by simp, fun p hp hD => absurd hD (hnd p hp), ht.1, ?_, k2, ?_, fun p _ hp _ => hnd p hp, k3, hr1.more hcm, hf1.more hcm, ?_, hd⟩
  · rw [h1] at g1 g2 g3
    exact ⟨rfl, g4, β', g1, g2, g3⟩
  · intro i hi p hp g1 g2
    have hT : ∀ p', p' ≤ p → (st p').T i = (st 0).T i := by
      intro p'
      induction p' with
      | zero => intro _; rfl
      | succ p' ih =>
        intro h3
        rw [(cx.val (p := p') (by omega)).1, put_T_ne (fun e => hnd p' (by omega) (g1 p' (by omega) e))]
        exact ih (by omega)
    rw [hT p (Nat.le_refl _)]
    exact ht.2 i hi
  · intro p h3 h4
    have := k4 p (by omega) h3; omega
  · intro p hp _ _ _
    exact hr.dom _ (cx.grows (a := 0) (b := p) (by omega) (by omega))

end Go.Proofs.Ytefmjpbmdoebaaa

/- The abstract machine, part 11: the same rules, each with what is to be shown of what comes behind. -/
set_option linter.unusedVariables false
set_option linter.unusedSimpArgs false
namespace Go.Proofs.Ytefmjpbmdoebaaa
open Go Go.RowKit

/-- No slot is known. -/
def jk : Nat → Value := fun _ => junk
/-- A slot is set. -/
def up (T : Nat → Value) (d : Nat) (v : Value) : Nat → Value := fun j => if j = d then v else T j
/-- An operand's value. -/
def rd (T : Nat → Value) : Operand → Value
  | .tmp t => T t
  | .const v => if Value.still v then v else junk
  | .global _ => junk
  | .func f => .func (.func f) #[] #[]

theorem rho_eq (S : St) : S.rho = rd S.T := by funext x; cases x <;> rfl

/-- A piece of code ends, and what is wanted holds there. -/
def Run (P : Program) (c : Code) (S : St) (K : Exit → St → Prop) : Prop := ∃ e S', Sem P c S e S' ∧ K e S'
def Ops (P : Program) (fl : Bool) (all : Array Oper) (l : List Oper) (S : St) (K : St → Prop) : Prop := ∃ S', RF P fl all l S S' ∧ K S'
/-- A call ends, and what is wanted holds there. -/
def CallK (P : Program) (f : FuncId) (args : List Value) (H : Hp) (K : Value → Hp → Prop) : Prop := ∃ r H', acall P f args H r H' ∧ K r H'

/-- What holds behind the first of two pieces. -/
def thn (P : Program) (y : Code) (K : Exit → St → Prop) : Exit → St → Prop
  | .normal, S => Run P y S K
  | e, S => K e S

section
variable {P : Program} {S : St} {K : Exit → St → Prop}

theorem Run.seq {x y : Code} (h : Run P x S (thn P y K)) : Run P (.seq x y) S K := by
  obtain ⟨e, S1, h1, h2⟩ := h
  cases e with
  | normal => obtain ⟨e2, S2, h3, h4⟩ := h2; exact ⟨e2, S2, h1.seq h3, h4⟩
  | _ => exact ⟨_, S1, h1.seq_out (by simp), h2⟩

theorem Run.skip (h : K .normal S) : Run P .skip S K := ⟨_, _, .skip, h⟩
theorem Run.label {l : Nat} (h : K .normal S) : Run P (.label l) S K := ⟨_, _, .label, h⟩
theorem Run.exit {i : Nat} (h : K (.exit i) S) : Run P (.exit i) S K := ⟨_, _, .exit, h⟩
theorem Run.ret (h : K .ret S) : Run P .ret S K := ⟨_, _, .ret, h⟩

/-- What holds behind a block. -/
def blk (i : Nat) (K : Exit → St → Prop) : Exit → St → Prop
  | .exit j, S => if j = i then K .normal S else K (.exit j) S
  | e, S => K e S

theorem Run.block {i : Nat} {c : Code} (h : Run P c S (blk i K)) : Run P (.block i c) S K := by
  obtain ⟨e, S1, h1, h2⟩ := h
  cases e with
  | exit j =>
    change (if j = i then _ else _) at h2
    split at h2
    · rename_i e; subst e; exact ⟨_, S1, h1.block_exit, h2⟩
    · rename_i e; exact ⟨_, S1, h1.block (fun k hk => by cases hk; exact e), h2⟩
  | _ => exact ⟨_, S1, h1.block (by simp), h2⟩

theorem Run.cond {c : Operand} {x y : Code} {t : Bool} (hok : opndOK S.n c = true) (hc : rd S.T c = .bool t) (h : Run P (if t then x else y) S K) : Run P (.cond c x y) S K := by
  obtain ⟨e, S1, h1, h2⟩ := h
  exact ⟨e, S1, .cond hok (by rw [rho_eq]; exact hc) h1, h2⟩

theorem Run.cond_t {c : Operand} {x y : Code} (hok : opndOK S.n c = true) (hc : rd S.T c = .bool true) (h : Run P x S K) : Run P (.cond c x y) S K := .cond hok hc h
theorem Run.cond_f {c : Operand} {x y : Code} (hok : opndOK S.n c = true) (hc : rd S.T c = .bool false) (h : Run P y S K) : Run P (.cond c x y) S K := .cond hok hc h
theorem Run.cond_b {c : Operand} {x y : Code} {t : Bool} (hok : opndOK S.n c = true) (hc : rd S.T c = .bool t) (h1 : t = true → Run P x S K) (h2 : t = false → Run P y S K) : Run P (.cond c x y) S K := by
  cases t
  · exact .cond hok hc (h2 rfl)
  · exact .cond hok hc (h1 rfl)

theorem Run.mono {c : Code} {K' : Exit → St → Prop} (h : Run P c S K) (k : ∀ e S, K e S → K' e S) : Run P c S K' := by
  obtain ⟨e, S1, h1, h2⟩ := h; exact ⟨e, S1, h1, k _ _ h2⟩

theorem Run.region {id n : Nat} {T : Nat → Value} {H : Hp} {ops : Array Oper} (hok : opsOK n ops = true) (h : Ops P false ops ops.toList ⟨n, T, H⟩ (K .normal)) : Run P (.region id ops false) ⟨n, T, H⟩ K := by
  obtain ⟨S1, h1, h2⟩ := h
  exact ⟨_, S1, .region hok h1.plain, h2⟩

/-- A statement whose operations may be carried out in several orders: sg is followed. -/
theorem Run.draw {id n : Nat} {T : Nat → Value} {H : Hp} {ops : Array Oper} (sg : List Nat) (hm : P.follows .mixedOrders = true) (hok : sgOK ops n sg = true) (h : Ops P true ops (sg.map fun j => ops.getD j default) ⟨n, T, H⟩ (K .normal)) : Run P (.region id ops true) ⟨n, T, H⟩ K := by
  obtain ⟨S1, h1, h2⟩ := h
  have hlt : ∀ j ∈ sg, j < ops.size := by
    unfold sgOK at hok
    simp only [Bool.and_eq_true] at hok
    intro j hj
    have := List.all_eq_true.1 hok.1.1.1.1.1.2 j hj
    exact of_decide_eq_true this
  exact ⟨_, S1, .region_draw hm sg hok (h1.drawn hlt), h2⟩

/-- A loop: a measure goes down with each round that goes on. -/
theorem Run.loop {c : Code} {α : Type} (m : α → Nat) (I : α → St → Prop) (hs : ∀ a S, I a S → Run P c S (fun e S' => (e = .normal ∧ ∃ a', m a' < m a ∧ I a' S') ∨ (e ≠ .normal ∧ K e S'))) (a : α) (h : I a S) : Run P (.loop c) S K := by
  have key : ∀ n a S, m a = n → I a S → ∃ k e S', Rnds P c k S e S' ∧ K e S' := by
    intro n
    induction n using Nat.strongRecOn with
    | ind n ih =>
      intro a S hm hI
      obtain ⟨e, S1, h1, h2⟩ := hs a S hI
      rcases h2 with ⟨rfl, a', h3, h4⟩ | ⟨h3, h4⟩
      · obtain ⟨k, e', S2, h5, h6⟩ := ih (m a') (by omega) a' S1 rfl h4
        exact ⟨k + 1, e', S2, .more h1 h5, h6⟩
      · exact ⟨1, e, S1, .out h1 h3, h4⟩
  obtain ⟨k, e, S2, h1, h2⟩ := key _ a S rfl h
  exact ⟨e, S2, .loop h1, h2⟩

/-- What is known of the slots may be forgotten. -/
def Wk (n : Nat) (T T' : Nat → Value) : Prop := ∀ i, i < n → T' i = T i ∨ T' i = junk
theorem Wk.jk {n : Nat} {T : Nat → Value} : Wk n T jk := fun i _ => .inr rfl
theorem Wk.up {n d : Nat} {T T' : Nat → Value} {v : Value} (hd : T d = v) (h : Wk n T T') : Wk n T (up T' d v) := by
  intro i hi
  show (if i = d then v else T' i) = T i ∨ (if i = d then v else T' i) = junk
  by_cases e : i = d
  · subst e; rw [if_pos rfl]; exact .inl hd.symm
  · rw [if_neg e]; exact h i hi

theorem Sem.wk {c : Code} {n : Nat} {T T' : Nat → Value} {H : Hp} {e : Exit} {S' : St} (h : Sem P c ⟨n, T', H⟩ e S') (hw : Wk n T T') : Sem P c ⟨n, T, H⟩ e S' := by
  intro B β a w ht hr hd
  refine h B β a w ⟨ht.1, fun i hi => ?_⟩ hr hd
  show VR β (T' i) _
  rcases hw i hi with h1 | h1
  · rw [h1]; exact ht.2 i hi
  · rw [h1]; exact .any _

theorem Run.wk {c : Code} {n : Nat} {T : Nat → Value} {H : Hp} (T' : Nat → Value) (hw : Wk n T T') (h : Run P c ⟨n, T', H⟩ K) : Run P c ⟨n, T, H⟩ K := by
  obtain ⟨e, S1, h1, h2⟩ := h
  exact ⟨e, S1, h1.wk hw, h2⟩

/-- The memory may have grown. -/
theorem Run.calm {c : Code} {n : Nat} {T : Nat → Value} {H H' : Hp} (hc : Calm H H') (h : Run P c ⟨n, T, H'⟩ K) : Run P c ⟨n, T, H⟩ K := by
  obtain ⟨e, S1, h1, h2⟩ := h
  refine ⟨e, S1, fun B β a w ht hr hd => wp_mono (h1 B β a w ht (hr.more hc) hd) ?_, h2⟩
  rintro e' a' w' ⟨rfl, hd', β', ht', hr', hf'⟩
  exact ⟨rfl, hd', β', ht', hr', fun id hi => hf'.old id (Nat.lt_of_lt_of_le hi hc.1), hf'.below, Nat.le_trans hc.1 hf'.nxt⟩

/-- What is to be shown behind a round of a loop. -/
def lpK {α : Type} (n : Nat) (m : α → Nat) (T' : α → Nat → Value) (H' : α → Hp) (I : α → Prop) (a : α) (K : Exit → St → Prop) : Exit → St → Prop
  | .normal, S => ∃ a', m a' < m a ∧ S.n = n ∧ S.H = H' a' ∧ Wk n S.T (T' a') ∧ I a'
  | e, S => K e S

theorem Run.loopW {c : Code} {n : Nat} {T : Nat → Value} {H : Hp} {α : Type} (m : α → Nat) (T' : α → Nat → Value) (H' : α → Hp) (I : α → Prop) (a : α) (hH : H = H' a) (hw : Wk n T (T' a)) (h0 : I a)
    (hs : ∀ a, I a → Run P c ⟨n, T' a, H' a⟩ (lpK n m T' H' I a K)) : Run P (.loop c) ⟨n, T, H⟩ K := by
  refine Run.loop m (fun a S => S.n = n ∧ S.H = H' a ∧ Wk n S.T (T' a) ∧ I a) ?_ a ⟨rfl, hH, hw, h0⟩
  rintro a ⟨n1, T1, H1⟩ ⟨rfl, rfl, h3, h4⟩
  refine ((hs a h4).wk _ h3).mono ?_
  rintro e S h
  cases e with
  | normal => exact .inl ⟨rfl, h⟩
  | _ => exact .inr ⟨by simp, h⟩

end

section
variable {P : Program} {fl : Bool} {all : Array Oper} {l : List Oper} {n : Nat} {T : Nat → Value} {H H' : Hp} {K : St → Prop} {d : Nat} {ty : TypeId} {ps : String} {af : Array Edge} {op : Op} {v : Value}

theorem Ops.nil {S : St} (h : K S) : Ops P fl all [] S K := ⟨S, .nil, h⟩

theorem Ops.step (he : StepF fl P ⟨some d, op, ty, ps, af, none⟩ ⟨n, T, H⟩ v H') (h : Ops P fl all l ⟨n, up T d v, H'⟩ K) : Ops P fl all (⟨some d, op, ty, ps, af, none⟩ :: l) ⟨n, T, H⟩ K := by
  obtain ⟨S', h1, h2⟩ := h
  exact ⟨S', .go rfl he h1, h2⟩
theorem Ops.step0 (he : StepF fl P ⟨none, op, ty, ps, af, none⟩ ⟨n, T, H⟩ v H') (h : Ops P fl all l ⟨n, T, H'⟩ K) : Ops P fl all (⟨none, op, ty, ps, af, none⟩ :: l) ⟨n, T, H⟩ K := by
  obtain ⟨S', h1, h2⟩ := h
  exact ⟨S', .go rfl he h1, h2⟩

theorem Ops.go (hc : cls op = 0) (he : ∀ H, aev P ⟨some d, op, ty, ps, af, none⟩ (rd T) H v H) (h : Ops P fl all l ⟨n, up T d v, H⟩ K) : Ops P fl all (⟨some d, op, ty, ps, af, none⟩ :: l) ⟨n, T, H⟩ K :=
  .step (StepF.pure (S := ⟨n, T, H⟩) hc (by rw [rho_eq]; exact he)) h
theorem Ops.make_ {ob : Ob} {f : Nat → Value} (hc : cls op = 1) (he : anew P ⟨some d, op, ty, ps, af, none⟩ (rd T) ob f) (h : Ops P fl all l ⟨n, up T d (f H.nxt), H.new ob⟩ K) : Ops P fl all (⟨some d, op, ty, ps, af, none⟩ :: l) ⟨n, T, H⟩ K :=
  .step (StepF.new (S := ⟨n, T, H⟩) hc (by rw [rho_eq]; exact he)) h
theorem Ops.get {id : Nat} {ob : Ob} (hc : cls op = 2) (hg : H.get id = some ob) (hm : ∀ (β : Bm) (ev : Operand → Value), (∀ x ∈ op.operands, VR β (rd T x) (ev x)) → ∃ p, β id = some p)
    (he : ∀ H, H.get id = some ob → aev P ⟨some d, op, ty, ps, af, none⟩ (rd T) H v H) (h : Ops P fl all l ⟨n, up T d v, H⟩ K) : Ops P fl all (⟨some d, op, ty, ps, af, none⟩ :: l) ⟨n, T, H⟩ K :=
  .step (StepF.load (S := ⟨n, T, H⟩) hc hg (by rw [rho_eq]; exact hm) (by rw [rho_eq]; exact he)) h
theorem Ops.chain (hc : cls op = 3) (he : aev P ⟨some d, op, ty, ps, af, none⟩ (rd T) H v H') (hg : fl = true → GE H H') (h : Ops P fl all l ⟨n, up T d v, H'⟩ K) : Ops P fl all (⟨some d, op, ty, ps, af, none⟩ :: l) ⟨n, T, H⟩ K :=
  .step (StepF.chain (S := ⟨n, T, H⟩) hc (by rw [rho_eq]; exact he) hg) h
theorem Ops.write0 (hc : cls op = 4) (he : aev P ⟨none, op, ty, ps, af, none⟩ (rd T) H v H') (hn : H.nxt ≤ H'.nxt) (h : Ops P fl all l ⟨n, T, H'⟩ K) : Ops P fl all (⟨none, op, ty, ps, af, none⟩ :: l) ⟨n, T, H⟩ K :=
  .step0 (StepF.write (S := ⟨n, T, H⟩) hc (by rw [rho_eq]; exact he) hn) h
theorem Ops.plain (he : aev P ⟨some d, op, ty, ps, af, none⟩ (rd T) H v H') (h : Ops P false all l ⟨n, up T d v, H'⟩ K) : Ops P false all (⟨some d, op, ty, ps, af, none⟩ :: l) ⟨n, T, H⟩ K :=
  .step (StepF.plain (S := ⟨n, T, H⟩) (by rw [rho_eq]; exact he)) h

theorem Ops.no {dst : Option Nat} {j dj : Nat} {b c : Bool} (hj : (all[j]?).bind (·.dst) = some dj) (hb : T dj = .bool b) (hne : b = !c) (h : Ops P fl all l ((⟨n, T, H⟩ : St).put dst undef) K) : Ops P fl all (⟨dst, op, ty, ps, af, some (j, c)⟩ :: l) ⟨n, T, H⟩ K := by
  obtain ⟨S', h1, h2⟩ := h
  refine ⟨S', .skip ?_ h1, h2⟩
  unfold gw
  have hj' : ((all[j]?).bind fun x => x.dst) = some dj := hj
  simp only [hj', hb, hne]
  cases c <;> rfl

theorem Ops.no_u {dst : Option Nat} {j dj : Nat} {c : Bool} (hj : (all[j]?).bind (·.dst) = some dj) (hb : T dj = undef) (h : Ops P fl all l ((⟨n, T, H⟩ : St).put dst undef) K) : Ops P fl all (⟨dst, op, ty, ps, af, some (j, c)⟩ :: l) ⟨n, T, H⟩ K := by
  obtain ⟨S', h1, h2⟩ := h
  refine ⟨S', .skip ?_ h1, h2⟩
  unfold gw
  have hj' : ((all[j]?).bind fun x => x.dst) = some dj := hj
  simp only [hj', hb]
  rfl

theorem Ops.mono {S : St} {K' : St → Prop} (h : Ops P fl all l S K) (k : ∀ S, K S → K' S) : Ops P fl all l S K' := by
  obtain ⟨S', h1, h2⟩ := h; exact ⟨S', h1, k _ h2⟩

end

section
variable {P : Program} {f : FuncId} {fn : Func} {c : Code} {args : List Value} {H : Hp} {K : Value → Hp → Prop}

/-- The slots at a call's start. -/
def argT : List Value → Nat → (Nat → Value)
  | [], _ => jk
  | v :: vs, i => up (argT vs (i + 1)) i v

theorem argT_wk (n : Nat) : ∀ (vs : List Value) (k : Nat) (T : Nat → Value), (∀ j, j < vs.length → T (k + j) = vs.getD j undef) → Wk n T (argT vs k)
  | [], k, T, _ => Wk.jk
  | v :: vs, k, T, h => Wk.up (by simpa using h 0 (by simp)) (argT_wk n vs (k + 1) T fun j hj => by
      have := h (j + 1) (by simpa using hj)
      rw [show k + 1 + j = k + (j + 1) by omega, this]; simp)

/-- What the results are at a call's end. -/
inductive ResK (P : Program) (S : St) : List ResultVar → (List Value → Prop) → Prop
  | nil {K : List Value → Prop} (h : K []) : ResK P S [] K
  | cons {rv : ResultVar} {rvs : List ResultVar} {v : Value} {K : List Value → Prop} (h : ARes P S rv v) (k : ResK P S rvs (fun vs => K (v :: vs))) : ResK P S (rv :: rvs) K

theorem ResK.all {S : St} {rvs : List ResultVar} {K : List Value → Prop} (h : ResK P S rvs K) : ∃ vs, AllRes P S rvs vs ∧ K vs := by
  induction h with
  | nil h => exact ⟨[], .nil, h⟩
  | cons h k ih => obtain ⟨vs, h1, h2⟩ := ih; exact ⟨_, .cons h h1, h2⟩

theorem ResK.tmp {n t : Nat} {T : Nat → Value} {v : Value} {rvs : List ResultVar} {K : List Value → Prop} (ht : t.blt n = true) (hv : T t = v) (k : ResK P ⟨n, T, H⟩ rvs (fun vs => K (v :: vs))) : ResK P ⟨n, T, H⟩ (.tmp t :: rvs) K := by
  subst hv; exact .cons (.tmp (by simpa using ht)) k

def fin (P : Program) (rs : List ResultVar) (K : Value → Hp → Prop) (e : Exit) (S : St) : Prop := (e = .ret ∨ e = .normal) ∧ ResK P S rs (fun vs => K (resVal vs) S.H)

theorem CallK.enter {nt : Nat} {rs : Array ResultVar} (hf : P.funcs[f]? = some fn) (hb : fn.body = some c) (hn : (fn.name == "runtime.NumGoroutine") = false) (hnt : fn.ntmps = nt) (hrs : fn.results = rs) (hl : args.length.ble nt = true)
    (h : Run P c ⟨nt, argT args 0, H⟩ (fin P rs.toList K)) : CallK P f args H K := by
  obtain ⟨e, S1, h1, h2, h3⟩ := h
  obtain ⟨vs, h4, h5⟩ := h3.all
  subst hnt hrs
  refine ⟨_, _, acall_enter hf hb hn (Nat.le_of_ble_eq_true hl) (h1.wk (T := fun j => args.getD j undef) (argT_wk _ args 0 _ fun j hj => by simp)) h2 h4, h5⟩

theorem CallK.mono {K' : Value → Hp → Prop} (h : CallK P f args H K) (k : ∀ r H', K r H' → K' r H') : CallK P f args H K' := by
  obtain ⟨r, H', h1, h2⟩ := h; exact ⟨r, H', h1, k _ _ h2⟩

theorem CallK.eq {r : Value} {H' : Hp} (h : CallK P f args H (fun r' H2 => r' = r ∧ H2 = H')) : acall P f args H r H' := by
  obtain ⟨r1, H1, h1, rfl, rfl⟩ := h; exact h1

end

theorem CallK.out {P : Program} {f : FuncId} {args : List Value} {H : Hp} {K : Value → Hp → Prop} (h : CallK P f args H K) : ∃ r H', acall P f args H r H' ∧ K r H' := h
theorem CallK.intro {P : Program} {f : FuncId} {args : List Value} {H : Hp} {K : Value → Hp → Prop} {r : Value} {H' : Hp} (h : acall P f args H r H') (k : K r H') : CallK P f args H K := ⟨r, H', h, k⟩
attribute [irreducible] Run Ops CallK
end Go.Proofs.Ytefmjpbmdoebaaa

/- The abstract machine, part 12: data in rows, read and gathered. -/
set_option linter.unusedVariables false
set_option linter.unusedSimpArgs false
namespace Go.Proofs.Ytefmjpbmdoebaaa
open Go Go.RowKit

/-- n cells from k on. -/
def cut (cs : List Value) (k n : Nat) : List Value := (cs.drop k).take n

theorem cut_get {cs : List Value} {k n j : Nat} (hj : j < n) : (cut cs k n)[j]? = cs[k + j]? := by
  unfold cut
  rw [List.getElem?_take_of_lt hj, List.getElem?_drop]

theorem cut_len {cs : List Value} {k n : Nat} (h : (cut cs k n).length = n) (hn : 0 < n) : k + n ≤ cs.length := by
  unfold cut at h
  rw [List.length_take, List.length_drop] at h; omega

/-- How a kind of data lies in cells. -/
structure Cd (α : Type) where
  sz : Nat
  ok : Hp → List Value → α → Prop
  pos : 0 < sz
  len : ∀ {H cs a}, ok H cs a → cs.length = sz
  one : ∀ {H cs a}, ok H cs a → cs.all Value.one = true
  calm : ∀ {H H' cs a}, Calm H H' → ok H cs a → ok H' cs a

/-- Whole numbers. -/
def cI : Cd Int where
  sz := 1
  ok := fun _ cs n => cs = [.int .i64 n]
  pos := by omega
  len := fun h => by rw [h]; rfl
  one := fun h => by rw [h]; rfl
  calm := fun _ h => h

/-- Bytes. -/
def cB : Cd Int where
  sz := 1
  ok := fun _ cs n => cs = [.int .u8 n]
  pos := by omega
  len := fun h => by rw [h]; rfl
  one := fun h => by rw [h]; rfl
  calm := fun _ h => h

/-- Booleans. -/
def cBo : Cd Bool where
  sz := 1
  ok := fun _ cs n => cs = [.bool n]
  pos := by omega
  len := fun h => by rw [h]; rfl
  one := fun h => by rw [h]; rfl
  calm := fun _ h => h

/-- A slot's value is the datum. -/
def Vl {α : Type} (c : Cd α) (H : Hp) (v : Value) (a : α) : Prop := c.ok H (cellsOf v) a

/-- The slice without memory. -/
abbrev nilS : Value := .slice none 0 0

/-- A slice: the list. -/
def Sl {α : Type} (c : Cd α) (H : Hp) (v : Value) (l : List α) : Prop :=
  (l = [] ∧ ∃ p : Option Addr, v = .slice p 0 0 ∧ ∀ a, p = some a → a.spot = none → a.block < H.nxt) ∨ ∃ id off ob, v = .slice (some ⟨id, off, none⟩) l.length l.length ∧ H.get id = some ob ∧ (ob.sz = c.sz ∨ ob.sz = 0) ∧ l.length ≤ maxLen ∧ ∀ (i : Nat) (a : α), l[i]? = some a → c.ok H (cut ob.cs (off + i * c.sz) c.sz) a

/-- A slice of the call's own, to which may be appended: the list. Its row's root is k or later. -/
def Ac {α : Type} (c : Cd α) (e k : Nat) (H : Hp) (v : Value) (l : List α) : Prop :=
  (v = nilS ∧ l = []) ∨ ∃ id ob, v = .slice (some ⟨id, 0, none⟩) l.length l.length ∧ H.get id = some ob ∧ H.own id = true ∧ k ≤ H.root id ∧ ob.e = e ∧ ob.sz = c.sz ∧ l.length ≤ maxLen ∧ ob.cs.length = l.length * c.sz ∧ ∀ (i : Nat) (a : α), l[i]? = some a → c.ok H (cut ob.cs (i * c.sz) c.sz) a

def idOf : Value → Option Nat
  | .slice (some ⟨b, _, none⟩) _ _ => some b
  | .pointer (some ⟨b, _, none⟩) => some b
  | _ => none

/-- Two slices that do not stand for one row. -/
def Ap (u v : Value) : Prop := ∀ i, idOf u = some i → idOf v ≠ some i

theorem Ap.symm {u v : Value} (h : Ap u v) : Ap v u := fun i h1 h2 => h i h2 h1
theorem Ap.nil_l {v : Value} : Ap nilS v := fun i h => by cases h
theorem Ap.nil_r {v : Value} : Ap v nilS := fun i _ h => by cases h

/-- The value's row is there. -/
def Live (H : Hp) (v : Value) : Prop := ∀ i, idOf v = some i → i < H.nxt

/-- The value in a slice's cell. -/
def CellAt (H : Hp) (v : Value) (i : Nat) (u : Value) : Prop := ∃ id off ob n, v = .slice (some ⟨id, off, none⟩) n n ∧ H.get id = some ob ∧ ob.cs[off + i]? = some u

section
variable {α : Type} {c : Cd α} {H H' H0 : Hp} {v u : Value} {l : List α} {e k : Nat}

theorem Sl.nil : Sl c H nilS [] := .inl ⟨rfl, none, rfl, fun _ h _ => by cases h⟩
theorem Ac.nil : Ac c e k H nilS [] := .inl ⟨rfl, rfl⟩

theorem Sl.calm (h : Sl c H v l) (hc : Calm H H') : Sl c H' v l := by
  rcases h with ⟨h, p, h1, h2⟩ | ⟨id, off, ob, h1, h2, h3, h4, h5⟩
  · exact .inl ⟨h, p, h1, fun a ha hs => Nat.lt_of_lt_of_le (h2 a ha hs) hc.1⟩
  · exact .inr ⟨id, off, ob, h1, (hc.2 id (Hp.lt h2)).1.trans h2, h3, h4, fun i a hi => c.calm hc (h5 i a hi)⟩

theorem Ac.calm (h : Ac c e k H v l) (hc : Calm H H') : Ac c e k H' v l := by
  rcases h with h | ⟨id, ob, h1, h2, h3, h4, h5, h6, h7, h8, h9⟩
  · exact .inl h
  · obtain ⟨e1, e2, e3⟩ := hc.2 id (Hp.lt h2)
    exact .inr ⟨id, ob, h1, e1.trans h2, e2.trans h3, by rw [e3]; exact h4, h5, h6, h7, h8, fun i a hi => c.calm hc (h9 i a hi)⟩

theorem Ac.sl (h : Ac c e k H v l) : Sl c H v l := by
  rcases h with ⟨h, h'⟩ | ⟨id, ob, h1, h2, h3, h4, h5, h6, h7, h8, h9⟩
  · exact .inl ⟨h', none, h, fun _ h _ => by cases h⟩
  · exact .inr ⟨id, 0, ob, h1, h2, .inl h6, h7, fun i a hi => by rw [Nat.zero_add]; exact h9 i a hi⟩

theorem Ac.older {k' : Nat} (h : Ac c e k H v l) (hk : k' ≤ k) : Ac c e k' H v l := by
  rcases h with h | ⟨id, ob, h1, h2, h3, h4, h5⟩
  · exact .inl h
  · exact .inr ⟨id, ob, h1, h2, h3, Nat.le_trans hk h4, h5⟩

theorem Sl.val (h : Sl c H v l) : ∃ p, v = .slice p l.length l.length := by
  rcases h with ⟨h, p, h1, _⟩ | ⟨id, off, ob, h1, _⟩
  · subst h; exact ⟨p, h1⟩
  · exact ⟨_, h1⟩

theorem Sl.max (h : Sl c H v l) : l.length ≤ maxLen := by
  rcases h with ⟨h, _⟩ | ⟨id, off, ob, h1, h2, h3, h4, _⟩
  · subst h; simp
  · exact h4

theorem Sl.live (h : Sl c H v l) : Live H v := by
  intro i hi
  rcases h with ⟨_, p, h1, h2⟩ | ⟨id, off, ob, h1, h2, _⟩
  · subst h1
    match p, hi, h2 with
    | some ⟨b, o, none⟩, hi, h2 => cases hi; exact h2 _ rfl rfl
  · subst h1; cases hi; exact Hp.lt h2

theorem Ac.live (h : Ac c e k H v l) : Live H v := h.sl.live

theorem Live.calm (h : Live H v) (hc : Calm H H') : Live H' v := fun i hi => Nat.lt_of_lt_of_le (h i hi) hc.1

/-- What a call has made is no old row. -/
theorem Ac.ap (h : Ac c e k H v l) (hk : H0.nxt ≤ k) (hu : Live H0 u) : Ap u v := by
  intro i hi hv
  have := hu i hi
  rcases h with ⟨h, h'⟩ | ⟨id, ob, h1, h2, h3, h4, _⟩
  · subst h; cases hv
  · subst h1
    injection hv with hv
    have hv' : id = i := hv
    subst hv'
    have := H.rt id (Hp.lt h2)
    omega

/-- The same slice, with other contents. -/
theorem Sl.reset {l' : List α} (h : Sl c H v l) (hs : c.sz = 1) (hn : H.nxt ≤ H'.nxt) (hout : ∀ id, idOf v = some id → l ≠ [] → H'.get id = H.get id) (hlen : l'.length = l.length)
    (hel : ∀ j u a b, CellAt H v j u → l[j]? = some a → c.ok H [u] a → l'[j]? = some b → c.ok H' [u] b) : Sl c H' v l' := by
  by_cases hl : l = []
  · subst hl
    have hl' : l' = [] := List.length_eq_zero_iff.1 (by simpa using hlen)
    subst hl'
    obtain ⟨p, hp⟩ := h.val
    have hlv := h.live
    exact .inl ⟨rfl, p, hp, fun a ha hs => Nat.lt_of_lt_of_le (hlv _ (by obtain ⟨b, o, s⟩ := a; dsimp only at hs; subst hs ha; rw [hp]; rfl)) hn⟩
  · rcases h with ⟨h, _⟩ | ⟨id, off, ob, h1, h2, h3, h4, h5⟩
    · exact absurd h hl
    · refine .inr ⟨id, off, ob, by rw [hlen]; exact h1, (hout id (by rw [h1]; rfl) hl).trans h2, h3, by rw [hlen]; exact h4, fun i b hi => ?_⟩
      have hlt : i < l.length := by rw [← hlen]; exact (List.getElem?_eq_some_iff.1 hi).1
      have ha : l[i]? = some l[i] := List.getElem?_eq_getElem hlt
      have hok := h5 i _ ha
      have hcl := c.len hok
      rw [hs] at hok hcl ⊢
      obtain ⟨u, hu⟩ := List.length_eq_one_iff.1 hcl
      rw [hu] at hok ⊢
      have hu2 : ob.cs[off + i]? = some u := by
        have := cut_get (cs := ob.cs) (k := off + i * 1) (n := 1) (j := 0) (by omega)
        rw [hu, Nat.mul_one] at this; exact this.symm
      exact hel i u _ b ⟨id, off, ob, _, h1, h2, hu2⟩ ha hok hi

end

/-- Nothing is lost; the row of v may be no longer the call's own. -/
def Kp (H : Hp) (v : Value) (H' : Hp) : Prop := H.nxt ≤ H'.nxt ∧ ∀ id, id < H.nxt → H'.get id = H.get id ∧ H'.root id = H.root id ∧ (idOf v ≠ some id → H'.own id = H.own id)

section
variable {α β : Type} {c : Cd α} {c' : Cd β} {H H' H0 : Hp} {v u : Value} {l : List α} {m : List β} {e k k' e' : Nat}

theorem Kp.of_calm (h : Calm H H') : Kp H v H' := ⟨h.1, fun id hi => ⟨(h.2 id hi).1, (h.2 id hi).2.2, fun _ => (h.2 id hi).2.1⟩⟩

end

/-- A type of slices whose elements take sz cells. -/
def slA (P : Program) (t sz : Nat) : Bool :=
  match P.underlying t with
  | some (.slice e) =>
    match P.info? e with
    | some i => i.size == sz && decide (i.bytes ≤ 4096) && (match i.zero with | some z => (cellsOf z).length == sz && (cellsOf z).all Value.still | none => false)
    | none => false
  | _ => false

theorem slA_at {P : Program} {t sz : Nat} (h : slA P t sz = true) : ∃ i z, P.underlying t = some (.slice (P.elem t)) ∧ P.info? (P.elem t) = some i ∧ i.size = sz ∧ i.bytes ≤ 4096 ∧ i.zero = some z ∧ (cellsOf z).length = sz ∧ (cellsOf z).all Value.still = true := by
  unfold slA at h
  split at h
  · rename_i e he
    have hel : P.elem t = e := by simp [Program.elem, he]
    rw [hel]
    split at h
    · rename_i i hi
      simp only [Bool.and_eq_true, beq_iff_eq, decide_eq_true_eq] at h
      obtain ⟨⟨h1, h2⟩, h3⟩ := h
      split at h3
      · rename_i z hz
        simp only [Bool.and_eq_true, beq_iff_eq] at h3
        exact ⟨i, z, he, hi, h1, h2, hz, h3.1, h3.2⟩
      · cases h3
    · cases h
  · cases h

/-- Is the type's value one of several cells? -/
def agT (P : Program) (t : Nat) (b : Bool) : Bool := match P.underlying t with | some d => aggB d == b | none => false
theorem agT_at {P : Program} {t : Nat} {b : Bool} (h : agT P t b = true) : ∃ d, P.underlying t = some d ∧ aggB d = b := by
  unfold agT at h
  split at h
  · rename_i d hd; exact ⟨d, hd, by simpa using h⟩
  · cases h

section
variable {P : Program} {fl : Bool} {all : Array Oper} {rest : List Oper} {n : Nat} {T : Nat → Value} {H H' : Hp} {K : St → Prop} {d d1 d2 : Nat} {ty ty1 ty2 : TypeId} {ps ps1 ps2 : String} {af af1 af2 : Array Edge} {v : Value} {x y : Operand} {α : Type} {c : Cd α} {l : List α}

/-- A pointer names its row. -/
theorem mention {op : Op} {T : Nat → Value} {x : Operand} {id off : Nat} (hx : x ∈ op.operands) (hp : rd T x = .pointer (some ⟨id, off, none⟩)) : ∀ (β : Bm) (ev : Operand → Value), (∀ x ∈ op.operands, VR β (rd T x) (ev x)) → ∃ p, β id = some p := by
  intro β ev h
  have h1 := h x hx
  rw [hp] at h1
  generalize ev x = u at h1
  cases h1 with
  | ptr hb => exact ⟨_, hb⟩

theorem Ops.len {t : TypeId} (h : Sl c H (rd T x) l) (ht : slA P t c.sz = true) (k : Ops P fl all rest ⟨n, up T d (.int .i64 l.length), H⟩ K) :
    Ops P fl all (⟨some d, .call { callee := .builtin .len, args := #[x], argTypes := #[t] }, ty, ps, af, none⟩ :: rest) ⟨n, T, H⟩ K := by
  obtain ⟨p, hp⟩ := h.val
  obtain ⟨i, z, h1, _⟩ := slA_at ht
  exact .go rfl (fun _ => aev_len rfl rfl h1 hp) k

/-- x[y] of elements of one cell. -/
theorem Ops.idxC {t te : TypeId} {ki : IntKind} {j : Int} (h : Sl c H (rd T x) l) (hs : c.sz = 1) (hy : rd T y = .int ki j) (h0 : 0 ≤ j) (hj : j.toNat < l.length) (ht : slA P t 1 = true) (hte : agT P te false = true)
    (k : ∀ p v a, l[j.toNat]? = some a → c.ok H [v] a → CellAt H (rd T x) j.toNat v → Ops P fl all rest ⟨n, up (up T d1 p) d2 v, H⟩ K) :
    Ops P fl all (⟨some d1, .indexAddr t x y, ty1, ps1, af1, none⟩ :: ⟨some d2, .load te (.tmp d1), ty2, ps2, af2, none⟩ :: rest) ⟨n, T, H⟩ K := by
  obtain ⟨i, z, h1, h2, h3, _⟩ := slA_at ht
  obtain ⟨dd, h4, h5⟩ := agT_at hte
  rcases h with ⟨h, _⟩ | ⟨id, off, ob, e1, e2, e3, e4, e5⟩
  · subst h; simp at hj
  · have ha : l[j.toNat]? = some l[j.toNat] := List.getElem?_eq_getElem hj
    have hok := e5 _ _ ha
    rw [hs] at hok
    have hcl := c.len hok
    rw [hs] at hcl
    obtain ⟨v, hv⟩ := List.length_eq_one_iff.1 hcl
    have hv2 : ob.cs[off + j.toNat * i.size]? = some v := by
      have := cut_get (cs := ob.cs) (k := off + j.toNat * 1) (n := 1) (j := 0) (by omega)
      rw [hv] at this
      rw [h3]; exact this.symm
    rw [hv] at hok
    refine .go (v := .pointer (some ⟨id, off + j.toNat * i.size, none⟩)) rfl (fun _ => aev_indexAddr rfl h1 h2 e1 hy h0 (by omega)) ?_
    have hp : rd (up T d1 (.pointer (some ⟨id, off + j.toNat * i.size, none⟩))) (.tmp d1) = .pointer (some ⟨id, off + j.toNat * i.size, none⟩) := if_pos rfl
    exact .get rfl e2 (mention (by simp [Op.operands]) hp) (fun _ hg => aev_load rfl h4 h5 hp hg hv2) (k _ v _ ha hok ⟨id, off, ob, _, e1, e2, by rw [← hv2, h3, Nat.mul_one]⟩)

theorem Ops.idx {t te : TypeId} {ki : IntKind} {j : Int} (h : Sl c H (rd T x) l) (hs : c.sz = 1) (hy : rd T y = .int ki j) (h0 : 0 ≤ j) (hj : j.toNat < l.length) (ht : slA P t 1 = true) (hte : agT P te false = true)
    (k : ∀ p v a, l[j.toNat]? = some a → c.ok H [v] a → Ops P fl all rest ⟨n, up (up T d1 p) d2 v, H⟩ K) :
    Ops P fl all (⟨some d1, .indexAddr t x y, ty1, ps1, af1, none⟩ :: ⟨some d2, .load te (.tmp d1), ty2, ps2, af2, none⟩ :: rest) ⟨n, T, H⟩ K :=
  .idxC h hs hy h0 hj ht hte fun p v a ha hok _ => k p v a ha hok

/-- x[y] of whole numbers. -/
theorem Ops.idxI {t te : TypeId} {ki : IntKind} {j : Int} {l : List Int} (h : Sl cI H (rd T x) l) (hy : rd T y = .int ki j) (h0 : 0 ≤ j) (hj : j.toNat < l.length) (ht : slA P t 1 = true) (hte : agT P te false = true)
    (k : ∀ p a, l[j.toNat]? = some a → Ops P fl all rest ⟨n, up (up T d1 p) d2 (.int .i64 a), H⟩ K) :
    Ops P fl all (⟨some d1, .indexAddr t x y, ty1, ps1, af1, none⟩ :: ⟨some d2, .load te (.tmp d1), ty2, ps2, af2, none⟩ :: rest) ⟨n, T, H⟩ K :=
  .idx h rfl hy h0 hj ht hte fun p v a ha hv => by cases hv; exact k p a ha

theorem wrap_in {x : Int} (h1 : -9223372036854775808 ≤ x) (h2 : x ≤ 9223372036854775807) : IntKind.i64.wrap x = x := by
  rw [IntKind.wrap_i64]; omega

theorem Ops.move (hx : rd T x = v) (k : Ops P fl all rest ⟨n, up T d v, H⟩ K) : Ops P fl all (⟨some d, .move x, ty, ps, af, none⟩ :: rest) ⟨n, T, H⟩ K := .go rfl (fun _ => hx ▸ aev_move rfl) k
theorem Ops.assign (hx : rd T x = v) (k : Ops P fl all rest ⟨n, up T d v, H⟩ K) : Ops P fl all (⟨some d, .assign x, ty, ps, af, none⟩ :: rest) ⟨n, T, H⟩ K := .go rfl (fun _ => hx ▸ aev_assign rfl) k

theorem Ops.add {t u : TypeId} {a b : Int} (hx : rd T x = .int .i64 a) (hy : rd T y = .int .i64 b) (h1 : -9223372036854775808 ≤ a + b) (h2 : a + b ≤ 9223372036854775807) (k : Ops P fl all rest ⟨n, up T d (.int .i64 (a + b)), H⟩ K) :
    Ops P fl all (⟨some d, .binOp .add t x y u, ty, ps, af, none⟩ :: rest) ⟨n, T, H⟩ K :=
  .go rfl (fun _ => aev_bin rfl hx hy (by show some (Value.int .i64 (IntKind.i64.wrap (a + b))) = _; rw [wrap_in h1 h2])) k
theorem Ops.sub {t u : TypeId} {a b : Int} (hx : rd T x = .int .i64 a) (hy : rd T y = .int .i64 b) (h1 : -9223372036854775808 ≤ a - b) (h2 : a - b ≤ 9223372036854775807) (k : Ops P fl all rest ⟨n, up T d (.int .i64 (a - b)), H⟩ K) :
    Ops P fl all (⟨some d, .binOp .sub t x y u, ty, ps, af, none⟩ :: rest) ⟨n, T, H⟩ K :=
  .go rfl (fun _ => aev_bin rfl hx hy (by show some (Value.int .i64 (IntKind.i64.wrap (a - b))) = _; rw [wrap_in h1 h2])) k
theorem Ops.mul {t u : TypeId} {a b : Int} (hx : rd T x = .int .i64 a) (hy : rd T y = .int .i64 b) (h1 : -9223372036854775808 ≤ a * b) (h2 : a * b ≤ 9223372036854775807) (k : Ops P fl all rest ⟨n, up T d (.int .i64 (a * b)), H⟩ K) :
    Ops P fl all (⟨some d, .binOp .mul t x y u, ty, ps, af, none⟩ :: rest) ⟨n, T, H⟩ K :=
  .go rfl (fun _ => aev_bin rfl hx hy (by show some (Value.int .i64 (IntKind.i64.wrap (a * b))) = _; rw [wrap_in h1 h2])) k

/-- A comparison: both ways. -/
theorem Ops.cmp {op : BinOp} {t u : TypeId} {ki : IntKind} {a b : Int} {p : Prop} [Decidable p] (hx : rd T x = .int ki a) (hy : rd T y = .int ki b) (hv : ibin op ki a b = some (.bool (decide p)))
    (k1 : p → Ops P fl all rest ⟨n, up T d (.bool true), H⟩ K) (k2 : ¬ p → Ops P fl all rest ⟨n, up T d (.bool false), H⟩ K) :
    Ops P fl all (⟨some d, .binOp op t x y u, ty, ps, af, none⟩ :: rest) ⟨n, T, H⟩ K := by
  by_cases hp : p
  · exact .go rfl (fun _ => aev_bin rfl hx hy (by rw [hv]; simp [hp])) (k1 hp)
  · exact .go rfl (fun _ => aev_bin rfl hx hy (by rw [hv]; simp [hp])) (k2 hp)
theorem Ops.cmpn {t u : TypeId} {ki : IntKind} {a b : Int} (hx : rd T x = .int ki a) (hy : rd T y = .int ki b)
    (k1 : a ≠ b → Ops P fl all rest ⟨n, up T d (.bool true), H⟩ K) (k2 : a = b → Ops P fl all rest ⟨n, up T d (.bool false), H⟩ K) :
    Ops P fl all (⟨some d, .binOp .neq t x y u, ty, ps, af, none⟩ :: rest) ⟨n, T, H⟩ K := by
  by_cases hp : a = b
  · exact .go rfl (fun _ => aev_bin rfl hx hy (by show some (Value.bool (!decide (a = b))) = _; simp [hp])) (k2 hp)
  · exact .go rfl (fun _ => aev_bin rfl hx hy (by show some (Value.bool (!decide (a = b))) = _; simp [hp])) (k1 hp)

theorem Ops.call {f : FuncId} {xs : Array Operand} {ts : Array TypeId} {K' : Value → Hp → Prop} (h : CallK P f (xs.toList.map (rd T)) H K') (hg : ∀ r H', K' r H' → fl = true → GE H H') (k : ∀ r H', K' r H' → Ops P fl all rest ⟨n, up T d r, H'⟩ K) :
    Ops P fl all (⟨some d, .call { callee := .value (.func f), args := xs, argTypes := ts }, ty, ps, af, none⟩ :: rest) ⟨n, T, H⟩ K := by
  obtain ⟨r, H', h1, h2⟩ := h.out
  exact .chain rfl (aev_call (n := f) (first := #[]) (caps := #[]) rfl rfl (by simpa using h1)) (hg r H' h2) (k r H' h2)

theorem GE.refl' (H : Hp) : GE H H := ⟨Nat.le_refl _, fun _ _ => .inl rfl⟩

/-- A call whose result is known, and which leaves the memory alone. -/
theorem Ops.callE {f : FuncId} {xs : Array Operand} {ts : Array TypeId} {r : Value} (h : acall P f (xs.toList.map (rd T)) H r H) (k : Ops P fl all rest ⟨n, up T d r, H⟩ K) :
    Ops P fl all (⟨some d, .call { callee := .value (.func f), args := xs, argTypes := ts }, ty, ps, af, none⟩ :: rest) ⟨n, T, H⟩ K :=
  .chain rfl (aev_call (n := f) (first := #[]) (caps := #[]) rfl rfl (by simpa using h)) (fun _ => GE.refl' H) k

end
end Go.Proofs.Ytefmjpbmdoebaaa

/- The abstract machine, part 13: gathering by append. -/
set_option linter.unusedVariables false
set_option linter.unusedSimpArgs false
namespace Go.Proofs.Ytefmjpbmdoebaaa
open Go Go.RowKit

theorem cut_split {cs : List Value} {k n : Nat} (h : (cut cs k n).length = n) (hn : 0 < n) : ∀ j, j < n → cs[k + j]? = (cut cs k n)[j]? := fun j hj => (cut_get hj).symm

theorem cut_append_l {xs ys : List Value} {k n : Nat} (h : k + n ≤ xs.length) : cut (xs ++ ys) k n = cut xs k n := by
  apply List.ext_getElem?
  intro j
  rcases Nat.lt_or_ge j n with hj | hj
  · rw [cut_get hj, cut_get hj, List.getElem?_append_left (by omega)]
  · rw [List.getElem?_eq_none (by unfold cut; rw [List.length_take]; omega), List.getElem?_eq_none (by unfold cut; rw [List.length_take]; omega)]

theorem cut_append_r {xs ys : List Value} {k n : Nat} (h : k = xs.length) : cut (xs ++ ys) k n = cut ys 0 n := by
  subst h; unfold cut; simp

theorem cut_append_rj {xs ys : List Value} {k j n : Nat} (h : k = xs.length + j) : cut (xs ++ ys) k n = cut ys j n := by
  subst h; unfold cut
  rw [List.drop_append]
  have : List.drop (xs.length + j) xs = [] := List.drop_of_length_le (by omega)
  rw [this]; simp

theorem cut_take {cs : List Value} {k n m : Nat} (h : k + n ≤ m) : cut (cs.take m) k n = cut cs k n := by
  apply List.ext_getElem?
  intro j
  rcases Nat.lt_or_ge j n with hj | hj
  · rw [cut_get hj, cut_get hj, List.getElem?_take_of_lt (by omega)]
  · rw [List.getElem?_eq_none (by unfold cut; rw [List.length_take]; omega), List.getElem?_eq_none (by unfold cut; rw [List.length_take]; omega)]

theorem cut_all {cs : List Value} : cut cs 0 cs.length = cs := by unfold cut; simp

/-- The cells of a list, one after the other. -/
def cellsIn {α : Type} (c : Cd α) (H : Hp) (cs : List Value) (l : List α) : Prop := cs.length = l.length * c.sz ∧ ∀ (i : Nat) (a : α), l[i]? = some a → c.ok H (cut cs (i * c.sz) c.sz) a

section
variable {α : Type} {c : Cd α} {H H' H0 : Hp} {v u : Value} {l m : List α} {e k : Nat}

theorem mul_lt_of {i n s : Nat} (h : i < n) : i * s + s ≤ n * s := by
  have := Nat.mul_le_mul_right s (show i + 1 ≤ n by omega)
  rw [Nat.add_mul] at this; omega

theorem cellsIn.append {cs ds : List Value} (h : cellsIn c H cs l) (k : cellsIn c H ds m) : cellsIn c H (cs ++ ds) (l ++ m) := by
  refine ⟨by rw [List.length_append, List.length_append, h.1, k.1, Nat.add_mul], fun i a hi => ?_⟩
  rcases Nat.lt_or_ge i l.length with hl | hl
  · rw [List.getElem?_append_left hl] at hi
    rw [cut_append_l (by rw [h.1]; exact mul_lt_of hl)]
    exact h.2 i a hi
  · rw [List.getElem?_append_right hl] at hi
    rw [cut_append_rj (j := (i - l.length) * c.sz) (by rw [h.1, ← Nat.add_mul]; congr 1; omega)]
    exact k.2 _ a hi

theorem cellsIn.one {cs : List Value} (h : cellsIn c H cs l) : cs.all Value.one = true := by
  rw [List.all_eq_true]
  intro x hx
  obtain ⟨j, hj, rfl⟩ := List.mem_iff_getElem.1 hx
  have hp := c.pos
  have hj2 : j / c.sz < l.length := by
    rw [Nat.div_lt_iff_lt_mul hp]; have := h.1; omega
  have h1 := c.one (h.2 _ _ (List.getElem?_eq_getElem hj2))
  rw [List.all_eq_true] at h1
  refine h1 _ ?_
  have h2 : (cut cs (j / c.sz * c.sz) c.sz)[j % c.sz]? = some cs[j] := by
    rw [cut_get (Nat.mod_lt _ hp), Nat.mul_comm, Nat.div_add_mod]
    exact List.getElem?_eq_getElem hj
  exact List.mem_of_getElem? h2

theorem cellsIn.calm {cs : List Value} (h : cellsIn c H cs l) (hc : Calm H H') : cellsIn c H' cs l := ⟨h.1, fun i a hi => c.calm hc (h.2 i a hi)⟩

theorem cellsIn.sing {a : α} {cs : List Value} (h : c.ok H cs a) : cellsIn c H cs [a] := by
  have hl := c.len h
  refine ⟨by simp [hl], fun i b hi => ?_⟩
  cases i with
  | zero =>
    simp at hi; subst hi
    rw [Nat.zero_mul, ← hl, cut_all]; exact h
  | succ i => simp at hi

/-- The cells that a slice stands for. -/
theorem Sl.cells (h : Sl c H v l) (hne : l ≠ []) : ∃ id off ob, v = .slice (some ⟨id, off, none⟩) l.length l.length ∧ H.get id = some ob ∧ (ob.sz = c.sz ∨ ob.sz = 0) ∧ cellsIn c H (cut ob.cs off (l.length * c.sz)) l ∧ ∀ (j : Nat) (x : Value), (cut ob.cs off (l.length * c.sz))[j]? = some x → ob.cs[off + j]? = some x := by
  rcases h with ⟨h, _⟩ | ⟨id, off, ob, h1, h2, h3, h4, h5⟩
  · exact absurd h hne
  · have hpos : 0 < l.length := List.length_pos_iff.2 hne
    have hlast : l[l.length - 1]? = some l[l.length - 1] := List.getElem?_eq_getElem (by omega)
    have hk := cut_len (c.len (h5 _ _ hlast)) c.pos
    have hm : (l.length - 1) * c.sz + c.sz = l.length * c.sz := by rw [← Nat.succ_mul]; congr 1; omega
    have hcl : (cut ob.cs off (l.length * c.sz)).length = l.length * c.sz := by
      unfold cut; rw [List.length_take, List.length_drop]; omega
    refine ⟨id, off, ob, h1, h2, h3, ⟨hcl, fun i a hi => ?_⟩, fun j x hj => ?_⟩
    · have hil : i < l.length := (List.getElem?_eq_some_iff.1 hi).1
      have := mul_lt_of (s := c.sz) hil
      have e1 : cut (cut ob.cs off (l.length * c.sz)) (i * c.sz) c.sz = cut ob.cs (off + i * c.sz) c.sz := by
        apply List.ext_getElem?
        intro j
        rcases Nat.lt_or_ge j c.sz with hj | hj
        · rw [cut_get hj, cut_get (by omega), cut_get hj]; congr 1; omega
        · rw [List.getElem?_eq_none (by unfold cut; rw [List.length_take]; omega), List.getElem?_eq_none (by unfold cut; rw [List.length_take]; omega)]
      rw [e1]; exact h5 i a hi
    · have : j < l.length * c.sz := by have := (List.getElem?_eq_some_iff.1 hj).1; omega
      rw [cut_get this] at hj; exact hj

theorem Ac.cells (h : Ac c e k H v l) (hne : v ≠ nilS) : ∃ id ob, v = .slice (some ⟨id, 0, none⟩) l.length l.length ∧ H.get id = some ob ∧ H.own id = true ∧ k ≤ H.root id ∧ ob.e = e ∧ ob.sz = c.sz ∧ cellsIn c H ob.cs l := by
  rcases h with ⟨h, _⟩ | ⟨id, ob, h1, h2, h3, h4, h5, h6, h7, h8, h9⟩
  · exact absurd h hne
  · exact ⟨id, ob, h1, h2, h3, h4, h5, h6, h8, h9⟩

theorem Ac.mk {id : Nat} {ob : Ob} (h1 : v = .slice (some ⟨id, 0, none⟩) l.length l.length) (h2 : H.get id = some ob) (h3 : H.own id = true) (h4 : k ≤ H.root id) (h5 : ob.e = e) (h6 : ob.sz = c.sz) (h7 : l.length ≤ maxLen) (h8 : cellsIn c H ob.cs l) : Ac c e k H v l :=
  .inr ⟨id, ob, h1, h2, h3, h4, h5, h6, h7, h8.1, h8.2⟩

/-- A row of the call's own, made now. -/
theorem Ac.fresh {cs : List Value} (h : cellsIn c H cs l) (hm : l.length ≤ maxLen) (hk : k ≤ H.nxt) : Ac c e k (H.new ⟨e, c.sz, cs⟩) (.slice (some ⟨H.nxt, 0, none⟩) l.length l.length) l :=
  .mk rfl (Hp.new_get _ _) (Hp.new_own _ _) (by rw [Hp.new_root]; exact hk) rfl rfl hm (h.calm (Calm.new _ _))

end

theorem Calm.ge' {H H' : Hp} (h : Calm H H') : GE H H' := ⟨h.1, fun id hi => .inl (h.2 id hi).1⟩

/-- What append leaves of what was: H' behind, v' the new slice, v the old one. -/
structure Grew (k : Nat) (H : Hp) (v : Value) (H' : Hp) (v' : Value) : Prop where
  calm : ∀ H0, H0.nxt ≤ k → Calm H0 H → Calm H0 H'
  kp : Kp H v H'
  ap : ∀ u, Live H u → Ap u v → Ap u v'
  live : Live H v → Live H' v'

section
variable {α : Type} {c : Cd α} {H H' H0 : Hp} {v v' u : Value} {l : List α} {e k k' : Nat}

/-- What has only been kept for reading is stable when own rows may lose their right to grow. -/
structure Rd (c : Cd α) : Prop where
  kp : ∀ {H v H' cs a}, Kp H v H' → c.ok H cs a → c.ok H' cs a

theorem Sl.kp (hc : Rd c) (h : Sl c H u l) (hk : Kp H v H') : Sl c H' u l := by
  rcases h with ⟨h, p, h1, h2⟩ | ⟨id, off, ob, h1, h2, h3, h4, h5⟩
  · exact .inl ⟨h, p, h1, fun a ha hs => Nat.lt_of_lt_of_le (h2 a ha hs) hk.1⟩
  · exact .inr ⟨id, off, ob, h1, (hk.2 id (Hp.lt h2)).1.trans h2, h3, h4, fun i a hi => hc.kp hk (h5 i a hi)⟩

theorem Ac.kp (hc : Rd c) (h : Ac c e k H u l) (hk : Kp H v H') (ha : Ap u v) : Ac c e k H' u l := by
  rcases h with h | ⟨id, ob, h1, h2, h3, h4, h5, h6, h7, h8, h9⟩
  · exact .inl h
  · obtain ⟨e1, e2, e3⟩ := hk.2 id (Hp.lt h2)
    have hne : idOf v ≠ some id := ha id (by subst h1; rfl)
    exact .inr ⟨id, ob, h1, e1.trans h2, (e3 hne).trans h3, by rw [e2]; exact h4, h5, h6, h7, h8, fun i a hi => hc.kp hk (h9 i a hi)⟩

theorem Live.kp (h : Live H u) (hk : Kp H v H') : Live H' u := fun i hi => Nat.lt_of_lt_of_le (h i hi) hk.1

theorem rdI : Rd cI := ⟨fun _ h => h⟩
theorem rdB : Rd cB := ⟨fun _ h => h⟩
theorem rdBo : Rd cBo := ⟨fun _ h => h⟩

theorem Grew.new {ob : Ob} {n : Nat} (hk : k ≤ H.nxt) : Grew k H nilS (H.new ob) (.slice (some ⟨H.nxt, 0, none⟩) n n) :=
  ⟨fun H0 _ h => h.trans (Calm.new _ _), Kp.of_calm (Calm.new _ _), fun u hu _ i hi h => by
    have := hu i hi
    injection h with h
    have h' : H.nxt = i := h
    omega, fun _ i hi => by
    injection hi with hi
    have hi' : H.nxt = i := hi
    show i < H.nxt + 1
    omega⟩

theorem Grew.app {id n n' : Nat} {ob : Ob} (hid : id < H.nxt) (ho : H.own id = true) (hk : k ≤ H.root id) : Grew k H (.slice (some ⟨id, 0, none⟩) n n) (H.app id ob hid ho) (.slice (some ⟨H.nxt, 0, none⟩) n' n') := by
  refine ⟨fun H0 h0 h => ⟨Nat.le_succ_of_le h.1, fun i hi => ?_⟩, ⟨Nat.le_succ _, fun i hi => ⟨Hp.app_lt hi, Hp.app_root_lt hi, fun hne => ?_⟩⟩, fun u hu _ i hi h => ?_, fun _ i hi => ?_⟩
  · have h1 := H.rt id hid
    have h2 : i < H.nxt := Nat.lt_of_lt_of_le hi h.1
    obtain ⟨e1, e2, e3⟩ := h.2 i hi
    rw [Hp.app_lt h2, Hp.app_own_lt h2 (by omega), Hp.app_root_lt h2]
    exact ⟨e1, e2, e3⟩
  · exact Hp.app_own_lt hi (fun e => hne (by rw [e]; rfl))
  · have := hu i hi
    injection h with h
    have h' : H.nxt = i := h
    omega
  · injection hi with hi
    have hi' : H.nxt = i := hi
    show i < H.nxt + 1
    omega

/-- Another slice of the call's own, behind an append. -/
theorem Grew.two {k' e' : Nat} (h : Grew k H v H' v') (hc : Rd c) (ha : Ac c e' k' H u l) (hp : Ap u v) : Ac c e' k' H' u l ∧ Ap u v' := ⟨ha.kp hc h.kp hp, h.ap u ha.live hp⟩
theorem Grew.sl (h : Grew k H v H' v') (hc : Rd c) (ha : Sl c H u l) : Sl c H' u l := ha.kp hc h.kp
theorem Grew.refl : Grew k H v H v := ⟨fun _ _ h => h, Kp.of_calm (Calm.refl _), fun _ _ h => h, fun h => h⟩

end

section
variable {P : Program} {fl : Bool} {all : Array Oper} {rest : List Oper} {n : Nat} {T : Nat → Value} {H H' : Hp} {K : St → Prop} {d d1 d2 : Nat} {ty ty1 ty2 : TypeId} {ps ps1 ps2 : String} {af af1 af2 : Array Edge} {v : Value} {x y : Operand} {α : Type} {c : Cd α} {l m : List α} {e k : Nat}

/-- []T{} -/
theorem Ops.lit0 {t : TypeId} (c : Cd α) (e k : Nat) (ht : slA P t c.sz = true) (he : P.elem t = e) (hk : k ≤ H.nxt)
    (kk : ∀ v' H', Ac c e k H' v' [] → Calm H H' → (∀ u, Live H u → Ap u v') → Ops P fl all rest ⟨n, up T d v', H'⟩ K) :
    Ops P fl all (⟨some d, .buildSlice t 0 #[], ty, ps, af, none⟩ :: rest) ⟨n, T, H⟩ K := by
  subst he
  obtain ⟨i, z, h1, h2, h3, h4, h5, h6, h7⟩ := slA_at ht
  refine .make_ rfl (anew_lit0 rfl rfl h1 h2 (by rw [h3]; exact c.pos)) ?_
  rw [h3]
  refine kk _ _ ?_ (Calm.new _ _) fun u hu i hi h => ?_
  · exact Ac.fresh (l := []) ⟨by simp, fun i a hi => by simp at hi⟩ (by simp) hk
  · have := hu i hi
    injection h with h
    have h' : H.nxt = i := h
    omega

/-- append(x, y...) -/
theorem Ops.cat {t : TypeId} {o : Oper} (ho : o = ⟨some d, .call { callee := .builtin .append, args := #[x, y], argTypes := #[t, t] }, ty, ps, af, none⟩) (hc : Rd c) (hx : Ac c e k H (rd T x) l) (hy : Sl c H (rd T y) m) (hk : k ≤ H.nxt) (ht : slA P t c.sz = true) (he : P.elem t = e) (hlen : l.length + m.length ≤ 34359738367)
    (kk : ∀ v' H', Ac c e k H' v' (l ++ m) → Grew k H (rd T x) H' v' → Ops P fl all rest ⟨n, up T d v', H'⟩ K) :
    Ops P fl all (o :: rest) ⟨n, T, H⟩ K := by
  subst ho he
  obtain ⟨i, z, h1, h2, h3, h4, h5, h6, h7⟩ := slA_at ht
  have hml : l.length + m.length ≤ maxLen := by simp only [maxLen]; omega
  have hby : ∀ q, q ≤ l.length + m.length → q * i.bytes ≤ 140737488355328 := fun q hq => by
    have := Nat.mul_le_mul (show q ≤ 34359738367 by omega) h4; omega
  by_cases hm : m = []
  · subst hm
    obtain ⟨p, hp⟩ := hx.sl.val
    obtain ⟨q, hq⟩ := hy.val
    refine .chain rfl (aev_append_none (n := l.length) rfl rfl h1 h2 hp hq) (fun _ => GE.refl' H) ?_
    rw [← hp]
    exact kk _ _ (by simpa using hx) Grew.refl
  · obtain ⟨id2, off2, ob2, e1, e2, e3, e4, e5⟩ := hy.cells hm
    have hpos : 0 < m.length := List.length_pos_iff.2 hm
    by_cases hn : rd T x = nilS
    · rw [hn] at kk
      have hl : l = [] := by
        rcases hx with ⟨_, h⟩ | ⟨id, ob, h, _⟩
        · exact h
        · rw [hn] at h; cases h
      subst hl
      refine .chain rfl (aev_append_nil (news := cut ob2.cs off2 (m.length * c.sz)) rfl rfl h1 h2 h5 hn e1 hpos e2 (by rw [h3]; exact e4.1) e5 (by rw [h3]; exact h6) (hby _ (by simp)) (by simpa using hml) (by rw [h3]; exact c.pos)) (fun _ => (Calm.new _ _).ge') ?_
      rw [h3]
      exact kk _ _ (by simpa using Ac.fresh e4 (by simpa using hml) hk) (Grew.new hk)
    · obtain ⟨id, ob, g1, g2, g3, g4, g5, g6, g7⟩ := hx.cells hn
      refine .chain rfl (aev_append (news := cut ob2.cs off2 (m.length * c.sz)) rfl rfl h1 h2 h5 g1 g2 g3 g5 (by rw [g6, h3]) (by rw [h3]; exact g7.1.symm) e1 e2 (by rw [h3]; exact e4.1) e5 e4.one (by rw [h3]; exact h6) (hby _ (Nat.le_refl _)) hml (by rw [h3]; exact c.pos)) (fun _ => ⟨Nat.le_succ _, fun id hid => .inl (Hp.app_lt hid)⟩) ?_
      have hgr := Grew.app (k := k) (n := l.length) (n' := l.length + m.length) (ob := ⟨P.elem t, i.size, ob.cs.take (l.length * i.size) ++ cut ob2.cs off2 (m.length * c.sz)⟩) (Hp.lt g2) g3 g4
      rw [← g1] at hgr
      have hcells : cellsIn c H (ob.cs.take (l.length * i.size) ++ cut ob2.cs off2 (m.length * c.sz)) (l ++ m) := by
        rw [h3, ← g7.1, List.take_length]
        exact g7.append e4
      refine kk _ _ ?_ hgr
      refine Ac.mk (by simp) (Hp.app_get _ _ _ _ _) (Hp.app_own _ _ _ _ _) (by rw [Hp.app_root]; exact g4) rfl (by exact h3) (by simpa using hml) ?_
      exact ⟨hcells.1, fun i a hi => hc.kp hgr.kp (hcells.2 i a hi)⟩

/-- append(x, y) -/
theorem Ops.push {t t1 : TypeId} {a : α} (hc : Rd c) (hx : Ac c e k H (rd T x) l) (hy : c.ok H (cellsOf (rd T y)) a) (hne : x ≠ .tmp d1) (hk : k ≤ H.nxt) (ht : slA P t c.sz = true) (ht1 : slA P t1 c.sz = true) (he : P.elem t = e) (hlen : l.length + 1 ≤ 34359738367) (hsz : c.sz ≤ 4096)
    (kk : ∀ p v' H', Ac c e k H' v' (l ++ [a]) → Grew k H (rd T x) H' v' → Ops P fl all rest ⟨n, up (up T d1 p) d2 v', H'⟩ K) :
    Ops P fl all (⟨some d1, .buildSlice t1 1 #[(0, y)], ty1, ps1, af1, none⟩ :: ⟨some d2, .call { callee := .builtin .append, args := #[x, .tmp d1], argTypes := #[t, t] }, ty2, ps2, af2, none⟩ :: rest) ⟨n, T, H⟩ K := by
  obtain ⟨i, z, h1, h2, h3, h4, h5, h6, h7⟩ := slA_at ht1
  have hp := c.pos
  have hcl := c.len hy
  have hon := c.one hy
  have hca := Calm.new H ⟨P.elem t1, c.sz, cellsOf (rd T y)⟩
  refine .make_ (f := fun id => .slice (some ⟨id, 0, none⟩) 1 1) (ob := ⟨P.elem t1, c.sz, cellsOf (rd T y)⟩) rfl ?_ ?_
  · have := (anew_lit (P := P) (o := ⟨some d1, .buildSlice t1 1 #[(0, y)], ty1, ps1, af1, none⟩) (ρ := rd T) (xs := [y]) rfl rfl rfl h1 h2 h5 (by omega) (by omega) (by rw [h3]; omega) (fun w hw => by
      obtain rfl := List.mem_singleton.1 hw
      exact ⟨by rw [h3]; exact hcl, hon⟩))
    simpa [h3] using this
  · have hrx : rd (up T d1 (.slice (some ⟨H.nxt, 0, none⟩) 1 1)) x = rd T x := by
      cases x with
      | tmp j => exact if_neg (fun e => hne (by rw [e]))
      | _ => rfl
    have hry : rd (up T d1 (.slice (some ⟨H.nxt, 0, none⟩) 1 1)) (.tmp d1) = .slice (some ⟨H.nxt, 0, none⟩) 1 1 := if_pos rfl
    have hlv := hx.live
    refine Ops.cat rfl hc (by rw [hrx]; exact hx.calm hca) (by rw [hry]; exact (Ac.fresh (k := 0) (cellsIn.sing hy) (by simp [maxLen]) (Nat.zero_le _)).sl) (Nat.le_succ_of_le hk) ht he (by simpa using hlen) fun v' H' g1 g2 => ?_
    rw [hrx] at g2
    refine kk _ _ _ g1 ⟨fun H0 h0 h => g2.calm H0 h0 (h.trans hca), ⟨Nat.le_trans hca.1 g2.kp.1, fun id hid => ?_⟩, fun u hu ha => g2.ap u (hu.calm hca) ha, fun h => g2.live (h.calm hca)⟩
    obtain ⟨f1, f2, f3⟩ := g2.kp.2 id (Nat.lt_succ_of_lt hid)
    obtain ⟨f4, f5, f6⟩ := hca.2 id hid
    exact ⟨f1.trans f4, f2.trans f6, fun hne => (f3 hne).trans f5⟩

end
end Go.Proofs.Ytefmjpbmdoebaaa

/- The abstract machine, part 14: guards, choices, literals, made rows, stores. -/
set_option linter.unusedVariables false
set_option linter.unusedSimpArgs false
namespace Go.Proofs.Ytefmjpbmdoebaaa
open Go Go.RowKit

section
variable {P : Program} {fl : Bool} {all : Array Oper} {rest : List Oper} {n : Nat} {T : Nat → Value} {H H' : Hp} {K : St → Prop} {d d1 d2 : Nat} {ty ty1 ty2 : TypeId} {ps ps1 ps2 : String} {af af1 af2 : Array Edge} {op op1 op2 : Op} {v : Value} {x y z : Operand} {α : Type} {c : Cd α} {l m : List α} {e k : Nat}

theorem aev_guard {dst : Option Nat} {g : Nat × Bool} {ρ : Operand → Value} (h : aev P ⟨dst, op, ty, ps, af, none⟩ ρ H v H') : aev P ⟨dst, op, ty, ps, af, some g⟩ ρ H v H' := h
theorem anew_guard {dst : Option Nat} {g : Nat × Bool} {ρ : Operand → Value} {ob : Ob} {f : Nat → Value} (h : anew P ⟨dst, op, ty, ps, af, none⟩ ρ ob f) : anew P ⟨dst, op, ty, ps, af, some g⟩ ρ ob f := h
theorem stepF_guard {dst : Option Nat} {g : Nat × Bool} {S : St} (h : StepF fl P ⟨dst, op, ty, ps, af, none⟩ S v H') : StepF fl P ⟨dst, op, ty, ps, af, some g⟩ S v H' := by
  cases fl
  · exact h
  · change StepC P ⟨dst, op, ty, ps, af, none⟩ S v H' at h
    show StepC P ⟨dst, op, ty, ps, af, some g⟩ S v H'
    unfold StepC at h ⊢
    exact h

theorem Ops.un {dst : Option Nat} {j dj : Nat} {b : Bool} (hj : (all[j]?).bind (·.dst) = some dj) (hb : T dj = .bool b) (h : Ops P fl all (⟨dst, op, ty, ps, af, none⟩ :: rest) ⟨n, T, H⟩ K) : Ops P fl all (⟨dst, op, ty, ps, af, some (j, b)⟩ :: rest) ⟨n, T, H⟩ K := by
  unfold Ops at h ⊢
  obtain ⟨S', h1, h2⟩ := h
  refine ⟨S', ?_, h2⟩
  have hj' : ((all[j]?).bind fun x => x.dst) = some dj := hj
  cases h1 with
  | go hg he hr => exact .go (by unfold gw; simp only [hj', hb]; simp) (stepF_guard he) hr
  | skip hg hr => cases hg

theorem Ops.un2 {dst : Option Nat} {j dj : Nat} {b : Bool} (hj : (all[j]?).bind (·.dst) = some dj) (hb : T dj = .bool b) (hne : d1 ≠ dj) (h : Ops P fl all (⟨some d1, op1, ty1, ps1, af1, none⟩ :: ⟨dst, op, ty, ps, af, none⟩ :: rest) ⟨n, T, H⟩ K) :
    Ops P fl all (⟨some d1, op1, ty1, ps1, af1, some (j, b)⟩ :: ⟨dst, op, ty, ps, af, some (j, b)⟩ :: rest) ⟨n, T, H⟩ K := by
  refine Ops.un hj hb ?_
  unfold Ops at h ⊢
  obtain ⟨S', h1, h2⟩ := h
  refine ⟨S', ?_, h2⟩
  have hj' : ((all[j]?).bind fun x => x.dst) = some dj := hj
  cases h1 with
  | go hg he hr =>
    refine .go hg he ?_
    rename_i r H1
    have hb' : (if dj = d1 then r else T dj) = .bool b := by rw [if_neg (Ne.symm hne)]; exact hb
    cases hr with
    | go hg he hr => exact .go (by unfold gw; simp only [hj']; show (match (if dj = d1 then r else T dj) with | .bool b' => some (b' == b) | .tuple _ => some false | _ => none) = _; rw [hb']; simp) (stepF_guard he) hr
    | skip hg hr => cases hg
  | skip hg hr => cases hg

/-- The guard of the second one of two. -/
theorem Ops.unS {dst : Option Nat} {j dj : Nat} {b : Bool} (hj : (all[j]?).bind (·.dst) = some dj) (hb : T dj = .bool b) (hne : (d1 == dj) = false) (h : Ops P fl all (⟨some d1, op1, ty1, ps1, af1, none⟩ :: ⟨dst, op, ty, ps, af, none⟩ :: rest) ⟨n, T, H⟩ K) :
    Ops P fl all (⟨some d1, op1, ty1, ps1, af1, none⟩ :: ⟨dst, op, ty, ps, af, some (j, b)⟩ :: rest) ⟨n, T, H⟩ K := by
  have hne' : d1 ≠ dj := by simpa using hne
  unfold Ops at h ⊢
  obtain ⟨S', h1, h2⟩ := h
  refine ⟨S', ?_, h2⟩
  have hj' : ((all[j]?).bind fun x => x.dst) = some dj := hj
  cases h1 with
  | go hg he hr =>
    refine .go hg he ?_
    rename_i r H1
    have hb' : (if dj = d1 then r else T dj) = .bool b := by rw [if_neg (Ne.symm hne')]; exact hb
    cases hr with
    | go hg he hr => exact .go (by unfold gw; simp only [hj']; show (match (if dj = d1 then r else T dj) with | .bool b' => some (b' == b) | .tuple _ => some false | _ => none) = _; rw [hb']; simp) (stepF_guard he) hr
    | skip hg hr => cases hg
  | skip hg hr => cases hg

theorem Ops.pick_t (hc : rd T x = .bool true) (hy : rd T y = v) (k : Ops P fl all rest ⟨n, up T d v, H⟩ K) : Ops P fl all (⟨some d, .pick x y z, ty, ps, af, none⟩ :: rest) ⟨n, T, H⟩ K :=
  .go rfl (fun H => by have := aev_pick (P := P) (o := ⟨some d, .pick x y z, ty, ps, af, none⟩) (ρ := rd T) (H := H) rfl hc; rwa [if_pos rfl, hy] at this) k
theorem Ops.pick_f (hc : rd T x = .bool false) (hz : rd T z = v) (k : Ops P fl all rest ⟨n, up T d v, H⟩ K) : Ops P fl all (⟨some d, .pick x y z, ty, ps, af, none⟩ :: rest) ⟨n, T, H⟩ K :=
  .go rfl (fun H => by have := aev_pick (P := P) (o := ⟨some d, .pick x y z, ty, ps, af, none⟩) (ρ := rd T) (H := H) rfl hc; rwa [if_neg (by simp), hz] at this) k
theorem Ops.not_t {t : TypeId} (hx : rd T x = .bool true) (k : Ops P fl all rest ⟨n, up T d (.bool false), H⟩ K) : Ops P fl all (⟨some d, .unOp .not t x, ty, ps, af, none⟩ :: rest) ⟨n, T, H⟩ K := .go rfl (fun _ => aev_not rfl hx) k
theorem Ops.not_f {t : TypeId} (hx : rd T x = .bool false) (k : Ops P fl all rest ⟨n, up T d (.bool true), H⟩ K) : Ops P fl all (⟨some d, .unOp .not t x, ty, ps, af, none⟩ :: rest) ⟨n, T, H⟩ K := .go rfl (fun _ => aev_not rfl hx) k

/-- A call whose result is a truth value: both ways. -/
theorem Ops.callB {f : FuncId} {xs : Array Operand} {ts : Array TypeId} {b : Bool} (h : acall P f (xs.toList.map (rd T)) H (.bool b) H) (k1 : b = true → Ops P fl all rest ⟨n, up T d (.bool true), H⟩ K) (k2 : b = false → Ops P fl all rest ⟨n, up T d (.bool false), H⟩ K) :
    Ops P fl all (⟨some d, .call { callee := .value (.func f), args := xs, argTypes := ts }, ty, ps, af, none⟩ :: rest) ⟨n, T, H⟩ K := by
  cases b
  · exact .callE h (k2 rfl)
  · exact .callE h (k1 rfl)

theorem aev_max {ρ : Operand → Value} {o : Oper} {ts : Array TypeId} {a b : Int} {ki : IntKind} (ho : o.op = .call { callee := .builtin .max, args := #[x, y], argTypes := ts }) (hx : ρ x = .int ki a) (hy : ρ y = .int ki b) : aev P o ρ H (.int ki (if b > a then b else a)) H :=
  aev_pure fun β ac hxs => by
    have h1 := hxs x (by rw [ho]; simp [Op.operands, Call.operands])
    have h2 := hxs y (by rw [ho]; simp [Op.operands, Call.operands])
    rw [hx] at h1
    rw [hy] at h2
    have e1 := VR.still_eq rfl h1
    have e2 := VR.still_eq rfl h2
    exact ⟨_, .int _ _, fun w => by simp [execOp, ho, resolve, invoke, builtin, e1, e2, Builtin.max_, Builtin.max2]⟩

theorem Ops.max {ts : Array TypeId} {a b : Int} {ki : IntKind} (hx : rd T x = .int ki a) (hy : rd T y = .int ki b) (k : Ops P fl all rest ⟨n, up T d (.int ki (if b > a then b else a)), H⟩ K) :
    Ops P fl all (⟨some d, .call { callee := .builtin .max, args := #[x, y], argTypes := ts }, ty, ps, af, none⟩ :: rest) ⟨n, T, H⟩ K := .go rfl (fun _ => aev_max rfl hx hy) k

theorem aev_isnil {ρ : Operand → Value} {o : Oper} {t u : TypeId} {p : Option Addr} {q c' : Nat} (ho : o.op = .binOp .eql t x (.const (.slice none 0 0)) u) (hx : ρ x = .slice p q c') (ht : ∃ e, P.underlying t = some (.slice e)) : aev P o ρ H (.bool p.isNone) H :=
  aev_pure fun β ac hxs => by
    have h1 := hxs x (by rw [ho]; simp [Op.operands])
    rw [hx] at h1
    generalize he : ac.eval x = u at h1
    have h2 : ac.eval (.const (.slice none 0 0)) = .slice none 0 0 := rfl
    obtain ⟨e, ht⟩ := ht
    refine ⟨.bool p.isNone, .bool _, fun w => ?_⟩
    cases h1 <;> simp [execOp, ho, he, h2, eqGuard_at_slice, binOp, run_equal_slice_nil _ t e _ _ _ ht]

/-- x == nil -/
theorem Ops.isnil (c : Cd α) {t u : TypeId} {p : Option Addr} {q c' : Nat} (hx : rd T x = .slice p q c') (ht : slA P t c.sz = true) (k : Ops P fl all rest ⟨n, up T d (.bool p.isNone), H⟩ K) :
    Ops P fl all (⟨some d, .binOp .eql t x (.const (.slice none 0 0)) u, ty, ps, af, none⟩ :: rest) ⟨n, T, H⟩ K := .go rfl (fun _ => aev_isnil rfl hx (let ⟨_, _, h, _⟩ := slA_at ht; ⟨_, h⟩)) k

/-- []T{x} -/
theorem Ops.lit1 {t : TypeId} {a : α} (c : Cd α) (e k : Nat) (hy : c.ok H (cellsOf (rd T y)) a) (ht : slA P t c.sz = true) (he : P.elem t = e) (hk : k ≤ H.nxt) (hsz : c.sz ≤ 4096)
    (kk : ∀ v' H', Ac c e k H' v' [a] → Calm H H' → (∀ u, Live H u → Ap u v') → Ops P fl all rest ⟨n, up T d v', H'⟩ K) :
    Ops P fl all (⟨some d, .buildSlice t 1 #[(0, y)], ty, ps, af, none⟩ :: rest) ⟨n, T, H⟩ K := by
  subst he
  obtain ⟨i, z, h1, h2, h3, h4, h5, h6, h7⟩ := slA_at ht
  have hp := c.pos
  have hcl := c.len hy
  have hon := c.one hy
  have hop := (anew_lit (P := P) (o := ⟨some d, .buildSlice t 1 #[(0, y)], ty, ps, af, none⟩) (ρ := rd T) (xs := [y]) rfl rfl rfl h1 h2 h5 (by omega) (by omega) (by rw [h3]; omega) (fun w hw => by
      obtain rfl := List.mem_singleton.1 hw
      exact ⟨by rw [h3]; exact hcl, hon⟩))
  refine .make_ rfl hop ?_
  have e1 : ([y].map (rd T)).flatMap cellsOf = cellsOf (rd T y) := by simp
  rw [e1, h3]
  refine kk _ _ (Ac.fresh (cellsIn.sing hy) (by simp [maxLen]) hk) (Calm.new _ _) fun u hu i hi h => ?_
  have := hu i hi
  injection h with h
  have h' : H.nxt = i := h
  omega

theorem zrow_cut {zs : List Value} {q i : Nat} (hi : i < q) (h0 : 0 < zs.length) : cut (zrow zs q) (i * zs.length) zs.length = zs := by
  have hlen : i * zs.length + zs.length ≤ q * zs.length := mul_lt_of hi
  apply List.ext_getElem?
  intro j
  rcases Nat.lt_or_ge j zs.length with hj | hj
  · rw [cut_get hj]
    unfold zrow
    rw [List.getElem?_map, List.getElem?_range (by omega)]
    simp only [Option.map_some]
    rw [List.getD_eq_getElem?_getD, Nat.mul_comm, Nat.mul_add_mod, Nat.mod_eq_of_lt hj, List.getElem?_eq_getElem hj]
    rfl
  · rw [List.getElem?_eq_none (by unfold cut; rw [List.length_take]; omega), List.getElem?_eq_none (by omega)]

/-- make([]T, n) -/
theorem Ops.make {t : TypeId} (c : Cd α) (e k : Nat) {k1 k2 : IntKind} {q : Nat} {a : α} {z0 : Value} (hz : (P.info? (P.elem t)).bind (·.zero) = some z0) (ha : ∀ H, c.ok H (cellsOf z0) a) (hx : rd T x = .int k1 q) (hy : rd T y = .int k2 q) (ht : slA P t c.sz = true) (he : P.elem t = e) (hk : k ≤ H.nxt) (hq : q * c.sz ≤ 16777216) (hsz : q ≤ 16777216)
    (kk : ∀ v' H', Ac c e k H' v' (List.replicate q a) → Calm H H' → (∀ u, Live H u → Ap u v') → Ops P fl all rest ⟨n, up T d v', H'⟩ K) :
    Ops P fl all (⟨some d, .makeSlice t x y, ty, ps, af, none⟩ :: rest) ⟨n, T, H⟩ K := by
  subst he
  obtain ⟨i, z, h1, h2, h3, h4, h5, h6, h7⟩ := slA_at ht
  have hzz : z0 = z := by rw [h2] at hz; simp [h5] at hz; exact hz.symm
  subst hzz
  have hp := c.pos
  refine .make_ rfl (anew_make (n := q) rfl h1 h2 h5 (by rw [h3]; exact h6) h7 hx hy (by rw [h3]; exact hq) (by have := Nat.mul_le_mul h4 hsz; omega) (by simp only [maxLen]; omega) (by rw [h3]; exact hp)) ?_
  rw [h3]
  have hcells : cellsIn c H (zrow (cellsOf z0) q) (List.replicate q a) := by
    refine ⟨by rw [zrow_length, h6, List.length_replicate], fun j b hj => ?_⟩
    rw [List.getElem?_replicate] at hj
    split at hj
    · rename_i hlt
      cases hj
      have := zrow_cut (zs := cellsOf z0) hlt (by omega)
      rw [h6] at this
      rw [this]; exact ha H
    · cases hj
  have hac := Ac.fresh (e := P.elem t) (k := k) hcells (by simp only [List.length_replicate, maxLen]; omega) hk
  simp only [List.length_replicate] at hac
  refine kk _ _ hac (Calm.new _ _) fun u hu i hi h => ?_
  have := hu i hi
  injection h with h
  have h' : H.nxt = i := h
  omega

end

/-- Only rows of the root r have been written. -/
structure Mod (r : Nat) (H H' : Hp) : Prop where
  nxt : H'.nxt = H.nxt
  own : ∀ id, id < H.nxt → H'.own id = H.own id ∧ H'.root id = H.root id
  get : ∀ id, id < H.nxt → H.root id ≠ r → H'.get id = H.get id

/-- The slice's row is the call's own, of root r. -/
def Rt (H : Hp) (v : Value) (r : Nat) : Prop := ∃ id, idOf v = some id ∧ id < H.nxt ∧ H.own id = true ∧ H.root id = r

section
variable {α : Type} {c : Cd α} {H H' H'' H0 : Hp} {v u : Value} {l : List α} {e k r : Nat}

theorem Mod.refl : Mod r H H := ⟨rfl, fun _ _ => ⟨rfl, rfl⟩, fun _ _ _ => rfl⟩
theorem Mod.trans (h : Mod r H H') (h' : Mod r H' H'') : Mod r H H'' :=
  ⟨h'.nxt.trans h.nxt, fun id hi => by
    have hi' : id < H'.nxt := by rw [h.nxt]; exact hi
    exact ⟨(h'.own id hi').1.trans (h.own id hi).1, (h'.own id hi').2.trans (h.own id hi).2⟩, fun id hi hr => by
    have hi' : id < H'.nxt := by rw [h.nxt]; exact hi
    exact (h'.get id hi' (by rw [(h.own id hi).2]; exact hr)).trans (h.get id hi hr)⟩

theorem Mod.calm (h : Mod r H H') (hc : Calm H0 H) (hr : H0.nxt ≤ r) : Calm H0 H' :=
  ⟨by rw [h.nxt]; exact hc.1, fun id hi => by
    obtain ⟨e1, e2, e3⟩ := hc.2 id hi
    have hlt : id < H.nxt := Nat.lt_of_lt_of_le hi hc.1
    have := H.rt id hlt
    exact ⟨(h.get id hlt (by omega)).trans e1, (h.own id hlt).1.trans e2, (h.own id hlt).2.trans e3⟩⟩

theorem Mod.upd {id : Nat} {ob : Ob} (h : id < H.nxt) : Mod (H.root id) H (H.upd id ob h) := ⟨rfl, fun _ _ => ⟨rfl, rfl⟩, fun i hi hr => Hp.upd_root hr⟩

theorem Rt.mod (h : Rt H v r) {r' : Nat} (hm : Mod r' H H') : Rt H' v r := by
  obtain ⟨id, h1, h2, h3, h4⟩ := h
  exact ⟨id, h1, by rw [hm.nxt]; exact h2, (hm.own id h2).1.trans h3, (hm.own id h2).2.trans h4⟩
theorem Rt.calm (h : Rt H v r) (hm : Calm H H') : Rt H' v r := by
  obtain ⟨id, h1, h2, h3, h4⟩ := h
  exact ⟨id, h1, Nat.lt_of_lt_of_le h2 hm.1, (hm.2 id h2).2.1.trans h3, (hm.2 id h2).2.2.trans h4⟩

theorem Ac.rt (h : Ac c e k H v l) (hl : l ≠ []) : ∃ r, k ≤ r ∧ Rt H v r := by
  rcases h with ⟨_, h⟩ | ⟨id, ob, h1, h2, h3, h4, _⟩
  · exact absurd h hl
  · exact ⟨_, h4, id, by rw [h1]; rfl, Hp.lt h2, h3, rfl⟩

/-- A slice of the call's own is untouched by what is written in another one. -/
theorem Ac.mod (h : Ac c e k H u l) (hr : Rt H v r) (hp : Ap u v) (hm : Mod r H H') (hc : ∀ cs a, a ∈ l → c.ok H cs a → c.ok H' cs a) : Ac c e k H' u l := by
  rcases h with h | ⟨id, ob, h1, h2, h3, h4, h5, h6, h7, h8, h9⟩
  · exact .inl h
  · have hlt := Hp.lt h2
    obtain ⟨id', g1, g2, g3, g4⟩ := hr
    have hne : H.root id ≠ r := by
      intro he
      have := H.ou id id' hlt g2 h3 g3 (by rw [he, g4])
      subst this
      exact hp id (by rw [h1]; rfl) g1
    exact .inr ⟨id, ob, h1, (hm.get id hlt hne).trans h2, (hm.own id hlt).1.trans h3, by rw [(hm.own id hlt).2]; exact h4, h5, h6, h7, h8, fun i a hi => hc _ a (List.mem_of_getElem? hi) (h9 i a hi)⟩

end

section
variable {P : Program} {fl : Bool} {all : Array Oper} {rest : List Oper} {n : Nat} {T : Nat → Value} {H H' : Hp} {K : St → Prop} {d d1 d2 : Nat} {ty ty1 ty2 : TypeId} {ps ps1 ps2 : String} {af af1 af2 : Array Edge} {op op1 op2 : Op} {v : Value} {x y z : Operand} {α : Type} {c : Cd α} {l m : List α} {e k r : Nat}

theorem cut_splice_at {cs vs : List Value} {i s : Nat} (hs : vs.length = s) (h : i * s + s ≤ cs.length) : cut (splice cs (i * s) vs) (i * s) s = vs := by
  apply List.ext_getElem?
  intro j
  rcases Nat.lt_or_ge j s with hj | hj
  · rw [cut_get hj, splice_get (by omega), if_pos (by omega)]; congr 1; omega
  · rw [List.getElem?_eq_none (by unfold cut; rw [List.length_take]; omega), List.getElem?_eq_none (by omega)]

theorem cut_splice_ne {cs vs : List Value} {i q s : Nat} (hs : vs.length = s) (h : i * s + s ≤ cs.length) (hne : q ≠ i) : cut (splice cs (i * s) vs) (q * s) s = cut cs (q * s) s := by
  apply List.ext_getElem?
  intro j
  rcases Nat.lt_or_ge j s with hj | hj
  · rw [cut_get hj, cut_get hj, splice_get (by omega), if_neg]
    rintro ⟨h1, h2⟩
    rcases Nat.lt_or_gt_of_ne hne with h3 | h3
    · have := mul_lt_of (s := s) h3; omega
    · have := mul_lt_of (s := s) h3; omega
  · rw [List.getElem?_eq_none (by unfold cut; rw [List.length_take]; omega), List.getElem?_eq_none (by unfold cut; rw [List.length_take]; omega)]

/-- x[y] = z -/
theorem Ops.set {t te : TypeId} {ki : IntKind} {j : Int} {a : α} (hx : Ac c e k H (rd T x) l) (hr : Rt H (rd T x) r) (hy : rd T y = .int ki j) (h0 : 0 ≤ j) (hj : j.toNat < l.length) (hz : c.ok H (cellsOf (rd T z)) a) (hzd : z ≠ .tmp d1) (ht : slA P t c.sz = true) (hte : P.elem t = te)
    (hc : ∀ H', Mod r H H' → ∀ cs b, (b ∈ l ∨ b = a) → c.ok H cs b → c.ok H' cs b)
    (kk : ∀ p H', Mod r H H' → Ac c e k H' (rd T x) (l.set j.toNat a) → Ops P fl all rest ⟨n, up T d1 p, H'⟩ K) :
    Ops P fl all (⟨some d1, .indexAddr t x y, ty1, ps1, af1, none⟩ :: ⟨none, .store te (.tmp d1) z, ty2, ps2, af2, none⟩ :: rest) ⟨n, T, H⟩ K := by
  subst hte
  obtain ⟨i, z0, h1, h2, h3, h4, h5, h6, h7⟩ := slA_at ht
  rcases hx with ⟨_, h⟩ | ⟨id, ob, e1, e2, e3, e4, e5, e6, e7, e8, e9⟩
  · subst h; simp at hj
  · have hcl := c.len hz
    have hrz : rd (up T d1 (.pointer (some ⟨id, 0 + j.toNat * i.size, none⟩))) z = rd T z := by
      cases z with
      | tmp q => exact if_neg (fun e => hzd (by rw [e]))
      | _ => rfl
    have hroot : H.root id = r := by
      obtain ⟨id', g1, g2, g3, g4⟩ := hr
      rw [e1] at g1
      injection g1 with g1
      have g1' : id = id' := g1
      subst g1'; exact g4
    have hfit : j.toNat * c.sz + c.sz ≤ ob.cs.length := by rw [e8]; exact mul_lt_of hj
    have hlt := Hp.lt e2
    refine .go (v := .pointer (some ⟨id, 0 + j.toNat * i.size, none⟩)) rfl (fun _ => aev_indexAddr rfl h1 h2 e1 hy h0 (by omega)) ?_
    have hst := aev_store (P := P) (o := ⟨none, .store (P.elem t) (.tmp d1) z, ty2, ps2, af2, none⟩) (ρ := rd (up T d1 (.pointer (some ⟨id, 0 + j.toNat * i.size, none⟩)))) rfl h2 (by rw [hrz, h3]; exact hcl.symm) (by rw [hrz]; exact c.one hz) (by show (if d1 = d1 then _ else _) = _; rw [if_pos rfl]) e2 e3 (by rw [hrz, hcl, h3]; omega)
    rw [hrz, Nat.zero_add, h3] at hst
    rw [Nat.zero_add, h3]
    refine .write0 rfl hst (Nat.le_refl _) ?_
    have hm : Mod r H (H.upd id ⟨ob.e, ob.sz, splice ob.cs (j.toNat * c.sz) (cellsOf (rd T z))⟩ hlt) := by rw [← hroot]; exact Mod.upd hlt
    refine kk _ _ hm ?_
    refine .inr ⟨id, _, by rw [List.length_set]; exact e1, Hp.upd_get _ _ _ _, e3, e4, e5, e6, by rw [List.length_set]; exact e7, by rw [splice_length (by rw [hcl]; exact hfit), List.length_set]; exact e8, fun q b hq => ?_⟩
    rw [List.getElem?_set] at hq
    split at hq
    · rename_i heq
      subst heq
      cases hq
      rw [cut_splice_at hcl hfit]
      exact hc _ hm _ _ (.inr rfl) hz
    · rename_i hne
      rw [cut_splice_ne hcl hfit (fun h => hne h.symm)]
      exact hc _ hm _ _ (.inl (List.mem_of_getElem? hq)) (e9 q b hq)

end
end Go.Proofs.Ytefmjpbmdoebaaa

/- The abstract machine, part 15: lists of lists; what a result owns. -/
set_option linter.unusedVariables false
set_option linter.unusedSimpArgs false
namespace Go.Proofs.Ytefmjpbmdoebaaa
open Go Go.RowKit

theorem sl_one {α : Type} {c : Cd α} {H : Hp} {v : Value} {l : List α} (h : Sl c H v l) : Value.one v = true := by
  obtain ⟨p, hp⟩ := h.val
  rw [hp]; rfl

/-- Lists, only to be read. -/
def cL {α : Type} (c : Cd α) : Cd (List α) where
  sz := 1
  ok := fun H cs l => ∃ v, cs = [v] ∧ Sl c H v l
  pos := by omega
  len := fun ⟨v, h, _⟩ => by rw [h]; rfl
  one := fun ⟨v, h, h'⟩ => by rw [h]; simp [sl_one h']
  calm := fun hc ⟨v, h, h'⟩ => ⟨v, h, h'.calm hc⟩

theorem rdL {α : Type} {c : Cd α} (h : Rd c) : Rd (cL c) := ⟨fun hk ⟨v, h1, h2⟩ => ⟨v, h1, h2.kp h hk⟩⟩

theorem cL_at {α : Type} {c : Cd α} {H : Hp} {v : Value} {l : List α} (h : (cL c).ok H [v] l) : Sl c H v l := by
  obtain ⟨u, h1, h2⟩ := h
  cases h1; exact h2
theorem cL_of {α : Type} {c : Cd α} {H : Hp} {v : Value} {l : List α} (h : Sl c H v l) : (cL c).ok H (cellsOf v) l := by
  obtain ⟨p, hp⟩ := h.val
  refine ⟨v, ?_, h⟩
  rw [hp]; rfl

/-- A slice that is a whole row: the list, and the row's number, if there is an element. -/
def Rw {α : Type} (c : Cd α) (e : Nat) (H : Hp) (v : Value) (l : List α) (F : List Nat) : Prop :=
  Sl c H v l ∧ ((l = [] ∧ F = []) ∨ ∃ id ob, l ≠ [] ∧ F = [id] ∧ v = .slice (some ⟨id, 0, none⟩) l.length l.length ∧ H.get id = some ob ∧ ob.e = e ∧ ob.sz = c.sz ∧ ob.cs.length = l.length * c.sz)

/-- The numbers are those of the call's own rows, made since k. -/
def Own (k : Nat) (H : Hp) (F : List Nat) : Prop := ∀ id ∈ F, id < H.nxt ∧ H.own id = true ∧ k ≤ H.root id

section
variable {α : Type} {c : Cd α} {H H' : Hp} {v u : Value} {l : List α} {e k r : Nat} {F G : List Nat}

theorem Rw.calm (h : Rw c e H v l F) (hc : Calm H H') : Rw c e H' v l F := by
  refine ⟨h.1.calm hc, ?_⟩
  rcases h.2 with h1 | ⟨id, ob, h1, h2, h3, h4, h5⟩
  · exact .inl h1
  · exact .inr ⟨id, ob, h1, h2, h3, (hc.2 id (Hp.lt h4)).1.trans h4, h5⟩

theorem Rw.kp (hr : Rd c) (h : Rw c e H v l F) (hc : Kp H u H') : Rw c e H' v l F := by
  refine ⟨h.1.kp hr hc, ?_⟩
  rcases h.2 with h1 | ⟨id, ob, h1, h2, h3, h4, h5⟩
  · exact .inl h1
  · exact .inr ⟨id, ob, h1, h2, h3, (hc.2 id (Hp.lt h4)).1.trans h4, h5⟩

theorem Own.calm (h : Own k H F) (hc : Calm H H') : Own k H' F := fun id hi => by
  obtain ⟨h1, h2, h3⟩ := h id hi
  obtain ⟨e1, e2, e3⟩ := hc.2 id h1
  exact ⟨Nat.lt_of_lt_of_le h1 hc.1, e2.trans h2, by rw [e3]; exact h3⟩

theorem Own.mod (h : Own k H F) (hm : Mod r H H') : Own k H' F := fun id hi => by
  obtain ⟨h1, h2, h3⟩ := h id hi
  exact ⟨by rw [hm.nxt]; exact h1, (hm.own id h1).1.trans h2, by rw [(hm.own id h1).2]; exact h3⟩

theorem Own.kp (h : Own k H F) (hk : Kp H v H') (hv : ∀ id, idOf v = some id → id ∉ F) : Own k H' F := fun id hi => by
  obtain ⟨h1, h2, h3⟩ := h id hi
  obtain ⟨e1, e2, e3⟩ := hk.2 id h1
  exact ⟨Nat.lt_of_lt_of_le h1 hk.1, (e3 (fun e => hv id e hi)).trans h2, by rw [e2]; exact h3⟩

theorem Own.append (h : Own k H F) (h' : Own k H G) : Own k H (F ++ G) := fun id hi => by
  rcases List.mem_append.1 hi with h1 | h1
  · exact h id h1
  · exact h' id h1

theorem Own.older {k' : Nat} (h : Own k H F) (hk : k' ≤ k) : Own k' H F := fun id hi => let ⟨h1, h2, h3⟩ := h id hi; ⟨h1, h2, Nat.le_trans hk h3⟩
theorem Own.nil : Own k H [] := fun id hi => by cases hi

theorem Ac.rw_ (h : Ac c e k H v l) : ∃ F, Rw c e H v l F ∧ Own k H F ∧ F.Nodup ∧ (∀ id, id ∈ F → idOf v = some id) := by
  rcases h with ⟨h1, h2⟩ | ⟨id, ob, h1, h2, h3, h4, h5, h6, h7, h8, h9⟩
  · subst h1 h2
    exact ⟨[], ⟨Sl.nil, .inl ⟨rfl, rfl⟩⟩, Own.nil, List.nodup_nil, fun id h => by cases h⟩
  · have hs : Ac c e k H v l := .inr ⟨id, ob, h1, h2, h3, h4, h5, h6, h7, h8, h9⟩
    by_cases hl : l = []
    · exact ⟨[], ⟨hs.sl, .inl ⟨hl, rfl⟩⟩, Own.nil, List.nodup_nil, fun id h => by cases h⟩
    · exact ⟨[id], ⟨hs.sl, .inr ⟨id, ob, hl, rfl, h1, h2, h5, h6, h8⟩⟩, fun i hi => by
        obtain rfl := List.mem_singleton.1 hi
        exact ⟨Hp.lt h2, h3, h4⟩, by simp, fun i hi => by
        obtain rfl := List.mem_singleton.1 hi
        rw [h1]; rfl⟩

/-- The call's own slice, again. -/
theorem Rw.ac (h : Rw c e H v l F) (ho : Own k H F) (hl : l ≠ []) : Ac c e k H v l := by
  rcases h.2 with ⟨h1, _⟩ | ⟨id, ob, h1, h2, h3, h4, h5, hsz, h6⟩
  · exact absurd h1 hl
  · subst h2
    obtain ⟨g1, g2, g3⟩ := ho id (by simp)
    rcases h.1 with ⟨h, _⟩ | ⟨id', off, ob', e1, e2, e3, e4, e5⟩
    · exact absurd h hl
    · rw [h3] at e1
      cases e1
      rw [h4] at e2; cases e2
      exact .inr ⟨id, ob, h3, h4, g2, g3, h5, hsz, e4, h6, fun i a hi => by have := e5 i a hi; rwa [Nat.zero_add] at this⟩

end

/-- Lists that are whole rows, with their numbers. -/
def cF {α : Type} (c : Cd α) (e : Nat) : Cd (List α × List Nat) where
  sz := 1
  ok := fun H cs a => ∃ v, cs = [v] ∧ Rw c e H v a.1 a.2
  pos := by omega
  len := fun ⟨v, h, _⟩ => by rw [h]; rfl
  one := fun ⟨v, h, h'⟩ => by rw [h]; simp [sl_one h'.1]
  calm := fun hc ⟨v, h, h'⟩ => ⟨v, h, h'.calm hc⟩

theorem rdF {α : Type} {c : Cd α} {e : Nat} (h : Rd c) : Rd (cF c e) := ⟨fun hk ⟨v, h1, h2⟩ => ⟨v, h1, h2.kp h hk⟩⟩

section
variable {α β : Type} {c : Cd α} {c' : Cd β} {H H' : Hp} {v : Value} {e k : Nat}

theorem cF_at {a : List α × List Nat} (h : (cF c e).ok H [v] a) : Rw c e H v a.1 a.2 := by
  obtain ⟨u, h1, h2⟩ := h
  cases h1; exact h2
theorem cF_of {a : List α × List Nat} (h : Rw c e H v a.1 a.2) : (cF c e).ok H (cellsOf v) a := by
  obtain ⟨p, hp⟩ := h.1.val
  refine ⟨v, ?_, h⟩
  rw [hp]; rfl

/-- What is known of the elements otherwise. -/
theorem Sl.map {l : List α} {f : α → β} (h : Sl c H v l) (hs : c'.sz = c.sz) (hf : ∀ cs a, c.ok H cs a → c'.ok H cs (f a)) : Sl c' H v (l.map f) := by
  rcases h with ⟨h1, h2⟩ | ⟨id, off, ob, h1, h2, h3, h4, h5⟩
  · subst h1; exact .inl ⟨rfl, h2⟩
  · refine .inr ⟨id, off, ob, by simpa using h1, h2, by rw [hs]; exact h3, by simpa using h4, fun i b hi => ?_⟩
    rw [List.getElem?_map] at hi
    obtain ⟨a, ha, rfl⟩ := Option.map_eq_some_iff.1 hi
    rw [hs]; exact hf _ a (h5 i a ha)

theorem Sl.forget {l : List (List α × List Nat)} (h : Sl (cF c e) H v l) : Sl (cL c) H v (l.map (·.1)) := h.map rfl fun cs a ⟨u, h1, h2⟩ => ⟨u, h1, h2.1⟩

end
end Go.Proofs.Ytefmjpbmdoebaaa

/- The abstract machine, part 16: results that own their rows; what writing them changes. -/
set_option linter.unusedVariables false
set_option linter.unusedSimpArgs false
namespace Go.Proofs.Ytefmjpbmdoebaaa
open Go Go.RowKit

/-- The rows that are owned. -/
def fps {α : Type} (ls : List (α × List Nat)) : List Nat := ls.flatMap (·.2)

theorem fps_append {α : Type} (ls ms : List (α × List Nat)) : fps (ls ++ ms) = fps ls ++ fps ms := by simp [fps]
theorem fps_one {α : Type} (a : α) (F : List Nat) : fps [(a, F)] = F := by simp [fps]

/-- Lists that own their rows, gathered in a slice of the call's own. -/
structure OAc {α : Type} (c : Cd α) (e e' k : Nat) (H : Hp) (v : Value) (ls : List (List α × List Nat)) : Prop where
  ac : Ac (cF c e) e' k H v ls
  own : Own k H (fps ls)
  nd : (fps ls).Nodup
  ni : ∀ id, idOf v = some id → id ∉ fps ls

/-- A list of lists that own their rows. -/
structure OL {α : Type} (c : Cd α) (e k : Nat) (H : Hp) (v : Value) (ls : List (List α × List Nat)) : Prop where
  sl : Sl (cF c e) H v ls
  own : Own k H (fps ls)
  nd : (fps ls).Nodup
  out : ∀ id, idOf v = some id → ls ≠ [] → ∀ f ∈ fps ls, H.root id ≠ H.root f

/-- Only rows that have the root of one of F have been written. -/
structure ModS (F : List Nat) (H H' : Hp) : Prop where
  nxt : H'.nxt = H.nxt
  own : ∀ id, id < H.nxt → H'.own id = H.own id ∧ H'.root id = H.root id
  get : ∀ id, id < H.nxt → (∀ f ∈ F, H.root id ≠ H.root f) → H'.get id = H.get id

section
variable {α : Type} {c : Cd α} {H H' H'' H0 : Hp} {v v' u : Value} {l : List α} {ls ms : List (List α × List Nat)} {e e' k r : Nat} {F G : List Nat}

theorem OAc.nil : OAc c e e' k H nilS [] := ⟨Ac.nil, Own.nil, List.nodup_nil, fun _ h => by cases h⟩

theorem OAc.calm (h : OAc c e e' k H v ls) (hc : Calm H H') : OAc c e e' k H' v ls := ⟨h.ac.calm hc, h.own.calm hc, h.nd, h.ni⟩

theorem OAc.ol (h : OAc c e e' k H v ls) : OL c e k H v ls := by
  refine ⟨h.ac.sl, h.own, h.nd, fun id hid hne f hf hr => ?_⟩
  rcases h.ac with ⟨h1, _⟩ | ⟨id', ob, h1, h2, h3, _⟩
  · rw [h1] at hid; cases hid
  · rw [h1] at hid
    injection hid with hid
    have hid' : id' = id := hid
    subst hid'
    obtain ⟨g1, g2, g3⟩ := h.own f hf
    have := H.ou id' f (Hp.lt h2) g1 h3 g2 hr
    subst this
    exact h.ni id' (by rw [h1]; rfl) hf

theorem OL.calm (h : OL c e k H v ls) (hc : Calm H H') : OL c e k H' v ls := by
  refine ⟨h.sl.calm hc, h.own.calm hc, h.nd, fun id hid hne f hf => ?_⟩
  have h1 := h.sl.live id hid
  rw [(hc.2 id h1).2.2, (hc.2 f (h.own f hf).1).2.2]
  exact h.out id hid hne f hf

theorem OL.older {k' : Nat} (h : OL c e k H v ls) (hk : k' ≤ k) : OL c e k' H v ls := ⟨h.sl, h.own.older hk, h.nd, h.out⟩

theorem OL.nil : OL c e k H nilS [] := ⟨Sl.nil, Own.nil, List.nodup_nil, fun id h => by cases h⟩

/-- More has been appended. -/
theorem OAc.grow (h : OAc c e e' k H v ls) (ha : Ac (cF c e) e' k H' v' (ls ++ ms)) (hg : Grew k H v H' v') (hF : Own k H (fps ms)) (hn : (fps ms).Nodup) (hd : ∀ f ∈ fps ms, f ∉ fps ls) (hv : ∀ id, idOf v = some id → id ∉ fps ms) : OAc c e e' k H' v' (ls ++ ms) := by
  have hall : ∀ id, idOf v = some id → id ∉ fps (ls ++ ms) := fun id hid hf => by
    rw [fps_append] at hf
    rcases List.mem_append.1 hf with h1 | h1
    · exact h.ni id hid h1
    · exact hv id hid h1
  have hown := h.own.append hF
  rw [← fps_append] at hown
  refine ⟨ha, hown.kp hg.kp hall, ?_, fun id hid hf => ?_⟩
  · rw [fps_append, List.nodup_append]
    exact ⟨h.nd, hn, fun a ha b hb e => hd b hb (e ▸ ha)⟩
  · have h1 := hown id hf
    refine hg.ap (.slice (some ⟨id, 0, none⟩) 0 0) (fun i hi => ?_) (fun i hi hi' => ?_) id rfl hid
    · injection hi with hi
      have hi' : id = i := hi
      subst hi'; exact h1.1
    · injection hi with hi
      have hi'' : id = i := hi
      subst hi''
      exact hall id hi' hf

/-- What has been made since is none of what was. -/
theorem fresh_not {k' : Nat} (h : Own k H0 F) (hk : H0.nxt ≤ k') (h' : Own k' H G) : ∀ f ∈ G, f ∉ F := fun f hf hf' => by
  obtain ⟨h1, _, h3⟩ := h' f hf
  have := H.rt f h1
  have := (h f hf').1
  omega
theorem fresh_ne {k' : Nat} (h : Live H0 v) (hk : H0.nxt ≤ k') (h' : Own k' H G) : ∀ id, idOf v = some id → id ∉ G := fun id hid hf => by
  obtain ⟨h1, _, h3⟩ := h' id hf
  have := H.rt id h1
  have := h id hid
  omega

theorem ModS.refl : ModS F H H := ⟨rfl, fun _ _ => ⟨rfl, rfl⟩, fun _ _ _ => rfl⟩
theorem ModS.trans (h : ModS F H H') (h' : ModS G H' H'') (hG : ∀ g ∈ G, g < H.nxt) : ModS (F ++ G) H H'' :=
  ⟨h'.nxt.trans h.nxt, fun id hi => by
    have hi' : id < H'.nxt := by rw [h.nxt]; exact hi
    exact ⟨(h'.own id hi').1.trans (h.own id hi).1, (h'.own id hi').2.trans (h.own id hi).2⟩, fun id hi hr => by
    have hi' : id < H'.nxt := by rw [h.nxt]; exact hi
    exact (h'.get id hi' (fun g hg => by
      rw [(h.own id hi).2, (h.own g (hG g hg)).2]; exact hr g (by simp [hg]))).trans (h.get id hi fun f hf => hr f (by simp [hf]))⟩

theorem ModS.calm (h : ModS F H H') (hc : Calm H0 H) (hr : ∀ f ∈ F, H0.nxt ≤ H.root f) : Calm H0 H' :=
  ⟨by rw [h.nxt]; exact hc.1, fun id hi => by
    obtain ⟨e1, e2, e3⟩ := hc.2 id hi
    have hlt : id < H.nxt := Nat.lt_of_lt_of_le hi hc.1
    have := H.rt id hlt
    exact ⟨(h.get id hlt (fun f hf => by have := hr f hf; omega)).trans e1, (h.own id hlt).1.trans e2, (h.own id hlt).2.trans e3⟩⟩

theorem Mod.toS {f : Nat} (h : Mod (H.root f) H H') : ModS [f] H H' := ⟨h.nxt, h.own, fun id hi hr => h.get id hi (hr f (by simp))⟩

theorem Own.modS (h : Own k H F) (hm : ModS G H H') : Own k H' F := fun id hi => by
  obtain ⟨h1, h2, h3⟩ := h id hi
  exact ⟨by rw [hm.nxt]; exact h1, (hm.own id h1).1.trans h2, by rw [(hm.own id h1).2]; exact h3⟩

/-- Own rows have roots of their own. -/
theorem own_root {f g : Nat} (hf : Own k H F) (h1 : f ∈ F) {k' : Nat} (hg : Own k' H G) (h2 : g ∈ G) (hne : f ≠ g) : H.root f ≠ H.root g := fun e =>
  hne (H.ou f g (hf f h1).1 (hg g h2).1 (hf f h1).2.1 (hg g h2).2.1 e)

theorem Rw.modS {k' : Nat} (hc : ∀ cs a, a ∈ l → c.ok H cs a → c.ok H' cs a) (h : Rw c e H v l F) (ho : Own k H F) (hG : Own k' H G) (hd : ∀ f ∈ F, f ∉ G) (hm : ModS G H H') : Rw c e H' v l F := by
  rcases h.2 with ⟨h1, h1'⟩ | ⟨id, ob, hl, h2, h3, h4, h5, h6⟩
  · refine ⟨?_, .inl ⟨h1, h1'⟩⟩
    subst h1
    obtain ⟨p, hp⟩ := h.1.val
    have hlv := h.1.live
    exact .inl ⟨rfl, p, hp, fun a ha hs => by obtain ⟨b, o, s⟩ := a; dsimp only at hs; subst hs ha hp; rw [hm.nxt]; exact hlv _ rfl⟩
  · have hlt := Hp.lt h4
    subst h2
    have hget : H'.get id = some ob := (hm.get id hlt fun g hg => own_root ho (by simp) hG hg (fun e => hd id (by simp) (e ▸ hg))).trans h4
    refine ⟨?_, .inr ⟨id, ob, hl, rfl, h3, hget, h5, h6⟩⟩
    rcases h.1 with ⟨h, _⟩ | ⟨id', off, ob', e1, e2, e3, e4, e5⟩
    · exact absurd h hl
    · rw [h3] at e1; cases e1
      rw [h4] at e2; cases e2
      exact .inr ⟨id, 0, ob, h3, hget, e3, e4, fun i a hi => hc _ a (List.mem_of_getElem? hi) (e5 i a hi)⟩

end
end Go.Proofs.Ytefmjpbmdoebaaa
