/- The abstract machine, part 1: values and memory by numbers that are no addresses (a number stands for a block, wherever that lies), and what it means that a world is as the abstract memory says. -/
import Derived.Calls
import Derived.Orders
import Derived.WalkKit
import Derived.Laws.AppendOwn
import Derived.Laws.OwnMore
import Derived.Laws.MakeOwn
set_option linter.unusedVariables false
set_option linter.unusedSimpArgs false
namespace Go.Proofs.Ytefmjpbmdoebaaa
open Go Go.RowKit

/-- A row of cells: its elements' type, how many cells an element has, the cells. -/
structure Ob where
  e : Nat
  sz : Nat
  cs : List Value

/-- The abstract memory. Numbers from 'nxt' on are free. A row that is 'own' may be written and appended to. Rows that came of one another by appending share their 'root'. -/
structure Hp where
  get : Nat → Option Ob
  own : Nat → Bool
  root : Nat → Nat
  nxt : Nat
  wf : ∀ i, nxt ≤ i → get i = none
  rt : ∀ i, i < nxt → root i ≤ i
  ou : ∀ i j, i < nxt → j < nxt → own i = true → own j = true → root i = root j → i = j

/-- A value of which nothing is known. -/
def junk : Value := .chan (some 0)

/-- The address of an empty slice of which no more is known. -/
def void : Addr := ⟨0, 0, some 0⟩

/-- Where a number's block lies; of one that may be written: how many cells it has, and how many an element has. -/
abbrev Bm := Nat → Option (Nat × Option (Nat × Nat))

inductive VR (β : Bm) : Value → Value → Prop
  | any (v : Value) : VR β junk v
  | bool (b : Bool) : VR β (.bool b) (.bool b)
  | int (k : IntKind) (n : Int) : VR β (.int k n) (.int k n)
  | string (s : ByteArray) : VR β (.string s) (.string s)
  | nilptr : VR β (.pointer none) (.pointer none)
  | nilslice : VR β (.slice none 0 0) (.slice none 0 0)
  | nilmap : VR β (.map none) (.map none)
  | nilfunc : VR β .nilFunc .nilFunc
  | niliface : VR β .nilIface .nilIface
  | map {id b : Nat} {k : Option (Nat × Nat)} (hb : β id = some (b, k)) : VR β (.map (some id)) (.map (some b))
  | slice {id off off' b : Nat} {k : Option (Nat × Nat)} {len c : Nat} (hb : β id = some (b, k)) (ho : off' = off ∨ (len = 0 ∧ off ≠ 0)) (hl : len ≤ c) (hm : c ≤ maxLen) (hk : ∀ K sz, k = some (K, sz) → off' + c * sz ≤ K) :
      VR β (.slice (some ⟨id, off, none⟩) len len) (.slice (some ⟨b, off', none⟩) len c)
  | emp (a : Addr) (c : Nat) (hm : c ≤ maxLen) : VR β (.slice (some void) 0 0) (.slice (some a) 0 c)
  | ptr {id off b : Nat} {k : Option (Nat × Nat)} (hb : β id = some (b, k)) : VR β (.pointer (some ⟨id, off, none⟩)) (.pointer (some ⟨b, off, none⟩))
  | agg {xs ys : Array Value} (hs : xs.size = ys.size) (h : ∀ i, i < xs.size → VR β (xs.getD i junk) (ys.getD i junk)) : VR β (.agg xs) (.agg ys)
  | tuple {xs ys : Array Value} (hs : xs.size = ys.size) (h : ∀ i, i < xs.size → VR β (xs.getD i junk) (ys.getD i junk)) : VR β (.tuple xs) (.tuple ys)
  | func (f : Fn) {xs ys cs ds : Array Value} (hs : xs.size = ys.size) (h : ∀ i, i < xs.size → VR β (xs.getD i junk) (ys.getD i junk))
      (hc : cs.size = ds.size) (h' : ∀ i, i < cs.size → VR β (cs.getD i junk) (ds.getD i junk)) : VR β (.func f xs cs) (.func f ys ds)

theorem VR.mono {β β' : Bm} (h : ∀ id p, β id = some p → β' id = some p) {v u : Value} (hv : VR β v u) : VR β' v u := by
  induction hv with
  | any v => exact .any v
  | bool b => exact .bool b
  | int k n => exact .int k n
  | string s => exact .string s
  | nilptr => exact .nilptr
  | nilslice => exact .nilslice
  | nilmap => exact .nilmap
  | nilfunc => exact .nilfunc
  | niliface => exact .niliface
  | map hb => exact .map (h _ _ hb)
  | slice hb ho hl hm hk => exact .slice (h _ _ hb) ho hl hm hk
  | emp a c hm => exact .emp a c hm
  | ptr hb => exact .ptr (h _ _ hb)
  | agg hs _ ih => exact .agg hs ih
  | tuple hs _ ih => exact .tuple hs ih
  | func f hs _ hc _ ih ih' => exact .func f hs ih hc ih'

theorem VR.undef {β : Bm} : VR β Go.undef Go.undef := .tuple rfl (fun i hi => by simp at hi)

/-- Values that stand for themselves. -/
def Value.still : Value → Bool
  | .bool _ | .int _ _ | .string _ | .pointer none | .slice none 0 0 | .map none | .nilFunc | .nilIface => true
  | .tuple xs => xs.size == 0
  | .func _ xs cs => xs.size == 0 && cs.size == 0
  | _ => false

theorem VR.still {β : Bm} {v : Value} (h : Value.still v = true) : VR β v v := by
  unfold Value.still at h
  split at h
  · exact .bool _
  · exact .int _ _
  · exact .string _
  · exact .nilptr
  · exact .nilslice
  · exact .nilmap
  · exact .nilfunc
  · exact .niliface
  · rename_i xs
    have h0 : xs.size = 0 := by simpa using h
    exact .tuple rfl (fun i hi => by omega)
  · rename_i f xs cs
    simp only [Bool.and_eq_true, beq_iff_eq] at h
    exact .func f rfl (fun i hi => by omega) rfl (fun i hi => by omega)
  · cases h

theorem VR.still_eq {β : Bm} {v u : Value} (h : Value.still v = true) (hv : VR β v u) : u = v := by
  cases hv with
  | any v => cases h
  | bool b => rfl
  | int k n => rfl
  | string s => rfl
  | nilptr => rfl
  | nilslice => rfl
  | nilmap => rfl
  | nilfunc => rfl
  | niliface => rfl
  | map hb => cases h
  | slice hb ho hl hm hk => cases h
  | emp a c hm => cases h
  | ptr hb => cases h
  | agg hs _ => cases h
  | tuple hs _ =>
    rename_i xs ys _
    have h0 : xs.size = 0 := by simpa [Value.still] using h
    have h1 : xs = #[] := Array.eq_empty_of_size_eq_zero h0
    have h2 : ys = #[] := Array.eq_empty_of_size_eq_zero (by omega)
    rw [h1, h2]
  | func f hs _ hc _ =>
    rename_i xs ys cs ds _ _
    simp only [Value.still, Bool.and_eq_true, beq_iff_eq] at h
    have h1 : xs = #[] := Array.eq_empty_of_size_eq_zero h.1
    have h2 : ys = #[] := Array.eq_empty_of_size_eq_zero (by omega)
    have h3 : cs = #[] := Array.eq_empty_of_size_eq_zero h.2
    have h4 : ds = #[] := Array.eq_empty_of_size_eq_zero (by omega)
    rw [h1, h2, h3, h4]

/-- A value of one cell, of which something is known. -/
def Value.one : Value → Bool
  | .agg _ | .tuple _ | .chan _ => false
  | _ => true

theorem VR.one {β : Bm} {v u : Value} (h : Value.one v = true) (hv : VR β v u) : u.oneCell' = true := by
  cases hv <;> first | rfl | (simp [Value.one] at h; done) | (cases h; done)

/-- A number for a list of numbers. -/
def mcode : List Int → Nat
  | [] => 0
  | x :: t => 2 ^ (if 0 ≤ x then 2 * x.toNat else 2 * (-x).toNat + 1) * (2 * mcode t + 1)
/-- The row that stands for a map: its keys, in the order in which they came. -/
def mapOb (l : List Int) : Ob := ⟨1 + mcode l, 0, []⟩
/-- The map's entries: the keys, each with the value true. -/
def MapIs (es : Array MapEntry) (l : List Int) : Prop := es.toList.map (fun e => (e.key, e.val)) = l.map fun x => (Value.int .i64 x, Value.bool true)

/-- The world is, at the numbers that β places, as the abstract memory says. What may be written lies from block B on. -/
structure HR (B : Nat) (β : Bm) (H : Hp) (w : World) : Prop where
  dom : ∀ id, H.nxt ≤ id → β id = none
  blk : ∀ id b k, β id = some (b, k) → b < w.heap.size
  cell : ∀ id ob b k, H.get id = some ob → β id = some (b, k) → ∀ i v, ob.cs[i]? = some v → ∃ u, w.cell? ⟨b, i, none⟩ = some u ∧ VR β v u
  siz : ∀ id ob b K s, H.get id = some ob → β id = some (b, some (K, s)) → s = ob.sz ∧ 0 < s
  own : ∀ id ob b k, H.get id = some ob → β id = some (b, k) → H.own id = true → B ≤ b ∧ ∃ K cur, k = some (K, ob.sz) ∧ w.heap[b]? = some (.cells cur ob.e (0, 0)) ∧ K ≤ cur.size ∧ ob.cs.length ≤ K
  inj : ∀ id id' ob ob' b k k', H.get id = some ob → H.get id' = some ob' → β id = some (b, k) → β id' = some (b, k') → H.own id = true → id' = id ∨ (H.root id' = H.root id ∧ ob'.cs.length ≤ ob.cs.length ∧ H.own id' = false)
  base : B ≤ w.heap.size
  mp : ∀ id b k l, H.get id = some (mapOb l) → β id = some (b, k) → B ≤ b ∧ ∃ es clock, w.heap[b]? = some (.map es clock) ∧ MapIs es l
  mpi : ∀ id id' b k k' l l', H.get id = some (mapOb l) → H.get id' = some (mapOb l') → β id = some (b, k) → β id' = some (b, k') → id' = id

/-- What a step leaves alone. -/
structure Fr (B : Nat) (β : Bm) (H : Hp) (w : World) (β' : Bm) (H' : Hp) (w' : World) : Prop where
  old : ∀ id, id < H.nxt → β' id = β id
  below : Below B w w'
  nxt : H.nxt ≤ H'.nxt

theorem HR.lt {B : Nat} {β : Bm} {H : Hp} {w : World} (h : HR B β H w) {id : Nat} {p} (hp : β id = some p) : id < H.nxt := by
  rcases Nat.lt_or_ge id H.nxt with h1 | h1
  · exact h1
  · rw [h.dom id h1] at hp; cases hp

theorem Fr.ext {B : Nat} {β β' : Bm} {H H' : Hp} {w w' : World} (h : Fr B β H w β' H' w') (hr : HR B β H w) : ∀ id p, β id = some p → β' id = some p :=
  fun id p hp => (h.old id (hr.lt hp)).trans hp

theorem Fr.refl {B : Nat} {β : Bm} {H : Hp} {w : World} (h : HR B β H w) : Fr B β H w β H w :=
  ⟨fun _ _ => rfl, Below.refl _ _, Nat.le_refl _⟩

theorem Fr.trans {B : Nat} {β β1 β2 : Bm} {H H1 H2 : Hp} {w w1 w2 : World} (h : Fr B β H w β1 H1 w1) (k : Fr B β1 H1 w1 β2 H2 w2) : Fr B β H w β2 H2 w2 :=
  ⟨fun id hi => (k.old id (Nat.lt_of_lt_of_le hi h.nxt)).trans (h.old id hi), h.below.trans k.below, Nat.le_trans h.nxt k.nxt⟩

end Go.Proofs.Ytefmjpbmdoebaaa
