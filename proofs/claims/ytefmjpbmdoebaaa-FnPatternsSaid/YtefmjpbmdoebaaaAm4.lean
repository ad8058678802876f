/- The abstract machine, part 4: operations that make memory or write it. -/
import Derived.Test.YtefmjpbmdoebaaaAm3
set_option linter.unusedVariables false
set_option linter.unusedSimpArgs false
namespace Go.Proofs.Ytefmjpbmdoebaaa
open Go Go.RowKit

/-- A new row. -/
def Hp.new (H : Hp) (ob : Ob) : Hp where
  get := fun i => if i = H.nxt then some ob else H.get i
  own := fun i => if i = H.nxt then true else H.own i
  root := fun i => if i = H.nxt then H.nxt else H.root i
  nxt := H.nxt + 1
  wf := fun i hi => by rw [if_neg (by omega)]; exact H.wf i (by omega)
  rt := fun i hi => by
    by_cases e : i = H.nxt
    · rw [if_pos e]; omega
    · rw [if_neg e]; exact H.rt i (by omega)
  ou := fun i j hi hj h1 h2 h3 => by
    by_cases e : i = H.nxt <;> by_cases e' : j = H.nxt
    · omega
    · rw [if_pos e, if_neg e'] at h3
      have := H.rt j (by omega); omega
    · rw [if_neg e, if_pos e'] at h3
      have := H.rt i (by omega); omega
    · rw [if_neg e] at h1 h3
      rw [if_neg e'] at h2 h3
      exact H.ou i j (by omega) (by omega) h1 h2 h3

/-- A row written: what may lie in the same place is lost. -/
def Hp.upd (H : Hp) (id : Nat) (ob : Ob) (h : id < H.nxt) : Hp where
  get := fun i => if i = id then some ob else if H.root i = H.root id then none else H.get i
  own := H.own
  root := H.root
  nxt := H.nxt
  wf := fun i hi => by
    rw [if_neg (by omega)]
    split
    · rfl
    · exact H.wf i hi
  rt := H.rt
  ou := H.ou

/-- A row that has been appended to: it is only read from now on; the longer one is the call's own. -/
def Hp.app (H : Hp) (id : Nat) (ob : Ob) (h : id < H.nxt) (ho : H.own id = true) : Hp where
  get := fun i => if i = H.nxt then some ob else H.get i
  own := fun i => if i = H.nxt then true else if i = id then false else H.own i
  root := fun i => if i = H.nxt then H.root id else H.root i
  nxt := H.nxt + 1
  wf := fun i hi => by rw [if_neg (by omega)]; exact H.wf i (by omega)
  rt := fun i hi => by
    by_cases e : i = H.nxt
    · rw [if_pos e]; have := H.rt id h; omega
    · rw [if_neg e]; exact H.rt i (by omega)
  ou := fun i j hi hj h1 h2 h3 => by
    by_cases e : i = H.nxt <;> by_cases e' : j = H.nxt
    · omega
    · exfalso
      rw [if_pos e, if_neg e'] at h3
      rw [if_neg e'] at h2
      by_cases e2 : j = id
      · rw [if_pos e2] at h2; cases h2
      · rw [if_neg e2] at h2
        exact e2 (H.ou id j h (by omega) ho h2 h3).symm
    · exfalso
      rw [if_neg e, if_pos e'] at h3
      rw [if_neg e] at h1
      by_cases e2 : i = id
      · rw [if_pos e2] at h1; cases h1
      · rw [if_neg e2] at h1
        exact e2 (H.ou i id (by omega) h h1 ho h3)
    · rw [if_neg e] at h1 h3
      rw [if_neg e'] at h2 h3
      by_cases e2 : i = id
      · rw [if_pos e2] at h1; cases h1
      · by_cases e3 : j = id
        · rw [if_pos e3] at h2; cases h2
        · rw [if_neg e2] at h1
          rw [if_neg e3] at h2
          exact H.ou i j (by omega) (by omega) h1 h2 h3

theorem Hp.lt {H : Hp} {id : Nat} {ob : Ob} (h : H.get id = some ob) : id < H.nxt := by
  rcases Nat.lt_or_ge id H.nxt with h1 | h1
  · exact h1
  · rw [H.wf id h1] at h; cases h
theorem Hp.new_get (H : Hp) (ob : Ob) : (H.new ob).get H.nxt = some ob := if_pos rfl
theorem Hp.new_own (H : Hp) (ob : Ob) : (H.new ob).own H.nxt = true := if_pos rfl
theorem Hp.new_root (H : Hp) (ob : Ob) : (H.new ob).root H.nxt = H.nxt := if_pos rfl
theorem Hp.new_lt {H : Hp} {ob : Ob} {id : Nat} (h : id < H.nxt) : (H.new ob).get id = H.get id := if_neg (by omega)
theorem Hp.new_own_lt {H : Hp} {ob : Ob} {id : Nat} (h : id < H.nxt) : (H.new ob).own id = H.own id := if_neg (by omega)
theorem Hp.new_root_lt {H : Hp} {ob : Ob} {id : Nat} (h : id < H.nxt) : (H.new ob).root id = H.root id := if_neg (by omega)
theorem Hp.new_old {H : Hp} {ob ob' : Ob} {id : Nat} (h : H.get id = some ob') : (H.new ob).get id = some ob' := by rw [Hp.new_lt (Hp.lt h)]; exact h
theorem Hp.app_get (H : Hp) (id : Nat) (ob : Ob) (h : id < H.nxt) (ho : H.own id = true) : (H.app id ob h ho).get H.nxt = some ob := if_pos rfl
theorem Hp.app_own (H : Hp) (id : Nat) (ob : Ob) (h : id < H.nxt) (ho : H.own id = true) : (H.app id ob h ho).own H.nxt = true := if_pos rfl
theorem Hp.app_root (H : Hp) (id : Nat) (ob : Ob) (h : id < H.nxt) (ho : H.own id = true) : (H.app id ob h ho).root H.nxt = H.root id := if_pos rfl
theorem Hp.app_lt {H : Hp} {ob : Ob} {id id' : Nat} {h0 : id < H.nxt} {ho : H.own id = true} (h : id' < H.nxt) : (H.app id ob h0 ho).get id' = H.get id' := if_neg (by omega)
theorem Hp.app_own_lt {H : Hp} {ob : Ob} {id id' : Nat} {h0 : id < H.nxt} {ho : H.own id = true} (h : id' < H.nxt) (hne : id' ≠ id) : (H.app id ob h0 ho).own id' = H.own id' := by
  show (if id' = H.nxt then _ else if id' = id then _ else _) = _
  rw [if_neg (by omega), if_neg hne]
theorem Hp.app_own_old {H : Hp} {ob : Ob} {id : Nat} {h0 : id < H.nxt} {ho : H.own id = true} : (H.app id ob h0 ho).own id = false := by
  show (if id = H.nxt then _ else if id = id then _ else _) = _
  rw [if_neg (by omega), if_pos rfl]
theorem Hp.app_root_lt {H : Hp} {ob : Ob} {id id' : Nat} {h0 : id < H.nxt} {ho : H.own id = true} (h : id' < H.nxt) : (H.app id ob h0 ho).root id' = H.root id' := if_neg (by omega)
theorem Hp.upd_get (H : Hp) (id : Nat) (ob : Ob) (h : id < H.nxt) : (H.upd id ob h).get id = some ob := if_pos rfl
theorem Hp.upd_root {H : Hp} {ob : Ob} {id id' : Nat} {h0 : id < H.nxt} (hne : H.root id' ≠ H.root id) : (H.upd id ob h0).get id' = H.get id' := by
  show (if id' = id then _ else if _ then _ else _) = _
  rw [if_neg (fun e => hne (by rw [e])), if_neg hne]
theorem Hp.upd_live {H : Hp} {ob ob' : Ob} {id id' : Nat} {h0 : id < H.nxt} (h : (H.upd id ob h0).get id' = some ob') (hne : id' ≠ id) : H.root id' ≠ H.root id ∧ H.get id' = some ob' := by
  change (if id' = id then _ else if _ then _ else _) = _ at h
  rw [if_neg hne] at h
  split at h
  · cases h
  · exact ⟨by assumption, h⟩

def Bm.set (β : Bm) (id : Nat) (p : Nat × Option (Nat × Nat)) : Bm := fun j => if j = id then some p else β j
theorem Bm.set_at (β : Bm) (id : Nat) (p) : (Bm.set β id p) id = some p := if_pos rfl
theorem Bm.set_ne (β : Bm) {id j : Nat} (p) (h : j ≠ id) : (Bm.set β id p) j = β j := if_neg h

theorem HR.bump {B : Nat} {β : Bm} {H : Hp} {w : World} (hr : HR B β H w) {p} : ∀ id q, β id = some q → (Bm.set β H.nxt p) id = some q := fun id q hq => by
  have := hr.lt hq
  rw [Bm.set_ne _ _ (by omega)]; exact hq

theorem alloc_cell (w : World) (us : Array Value) (e : Nat) (i : Nat) : (w.alloc (.cells us e)).cell? ⟨w.heap.size, i, none⟩ = us[i]? := by
  have h : (w.alloc (.cells us e)).heap[w.heap.size]? = some (.cells us e (0, 0)) := by show (w.heap.push _)[_]? = _; simp
  unfold World.cell?
  rw [h]
  rfl
theorem alloc_cell_old (w : World) (ob : Obj) {b : Nat} (hb : b < w.heap.size) (i : Nat) : (w.alloc ob).cell? ⟨b, i, none⟩ = w.cell? ⟨b, i, none⟩ :=
  World.cell?_of_block (Below.heap_alloc w ob b hb)

/-- A value's cells. -/
def cellsOf : Value → List Value
  | .agg xs => xs.toList
  | v => [v]

/-- Something is known of the value, and it lies in cells. -/
def Value.known : Value → Bool
  | .agg _ => true
  | v => Value.one v

theorem VR.cells {β : Bm} {v u : Value} (h : Value.known v = true) (hv : VR β v u) : (cellsOf v).length = u.cells.size ∧ ∀ i x, (cellsOf v)[i]? = some x → VR β x (u.cells.getD i junk) := by
  have one : ∀ v u : Value, VR β v u → (∀ xs, u ≠ .agg xs) → cellsOf v = [v] → (cellsOf v).length = u.cells.size ∧ ∀ i x, (cellsOf v)[i]? = some x → VR β x (u.cells.getD i junk) := by
    intro v u hv hu hc
    have hu' : u.cells = #[u] := by
      unfold Value.cells
      split
      · exact absurd rfl (hu _)
      · rfl
    rw [hc, hu']
    refine ⟨rfl, fun i x hx => ?_⟩
    cases i with
    | zero => simp at hx; subst hx; exact hv
    | succ i => simp at hx
  cases hv with
  | any v => simp [Value.known, Value.one, junk] at h
  | agg hs hx =>
    rename_i xs ys
    refine ⟨by simpa [cellsOf, Value.cells] using hs, fun i x hi => ?_⟩
    have hi' : xs[i]? = some x := by simpa [cellsOf] using hi
    have hlt : i < xs.size := (Array.getElem?_eq_some_iff.1 hi').1
    have := hx i hlt
    simpa [Value.cells, Array.getD_eq_getD_getElem?, hi'] using this
  | tuple hs hx => simp [Value.known, Value.one] at h
  | bool b => exact one _ _ (.bool b) (by intro xs h; cases h) rfl
  | int k n => exact one _ _ (.int k n) (by intro xs h; cases h) rfl
  | string s => exact one _ _ (.string s) (by intro xs h; cases h) rfl
  | nilptr => exact one _ _ .nilptr (by intro xs h; cases h) rfl
  | nilslice => exact one _ _ .nilslice (by intro xs h; cases h) rfl
  | emp a c hm => exact one _ _ (.emp a c hm) (by intro xs h; cases h) rfl
  | nilmap => exact one _ _ .nilmap (by intro xs h; cases h) rfl
  | nilfunc => exact one _ _ .nilfunc (by intro xs h; cases h) rfl
  | niliface => exact one _ _ .niliface (by intro xs h; cases h) rfl
  | map hb => exact one _ _ (.map hb) (by intro xs h; cases h) rfl
  | slice hb ho hl hm hk => exact one _ _ (.slice hb ho hl hm hk) (by intro xs h; cases h) rfl
  | ptr hb => exact one _ _ (.ptr hb) (by intro xs h; cases h) rfl
  | func f a b c d => exact one _ _ (.func f a b c d) (by intro xs h; cases h) rfl

section
variable {P : Program} {o : Oper} {ρ : Operand → Value} {H H' : Hp} {r : Value}

theorem known_list {l : List Value} (h : l.all Value.still = true) : ∀ (i : Nat) (β : Bm) (v : Value), l[i]? = some v → VR β v v := fun i β v hi => by
  rw [List.all_eq_true] at h
  exact VR.still (h v (List.mem_of_getElem? hi))

theorem cells_eq (z : Value) : z.cells.toList = cellsOf z := by
  cases z <;> rfl

end
end Go.Proofs.Ytefmjpbmdoebaaa
