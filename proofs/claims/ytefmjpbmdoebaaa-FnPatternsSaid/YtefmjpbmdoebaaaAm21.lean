/- The abstract machine, part 21: maps from whole numbers to true. -/
import Derived.Test.YtefmjpbmdoebaaaAm20
import Derived.MapKept
set_option linter.unusedVariables false
set_option linter.unusedSimpArgs false
namespace Go.Proofs.Ytefmjpbmdoebaaa
open Go Go.RowKit

theorem pow_odd : ∀ {a b m n : Nat}, 2 ^ a * (2 * m + 1) = 2 ^ b * (2 * n + 1) → a = b ∧ m = n
  | 0, 0, m, n, h => by simp at h; exact ⟨rfl, by omega⟩
  | 0, b + 1, m, n, h => by
    rw [Nat.pow_succ, Nat.mul_comm (2 ^ b) 2, Nat.mul_assoc] at h
    generalize 2 ^ b * (2 * n + 1) = z at h
    omega
  | a + 1, 0, m, n, h => by
    rw [Nat.pow_succ, Nat.mul_comm (2 ^ a) 2, Nat.mul_assoc] at h
    generalize 2 ^ a * (2 * m + 1) = z at h
    omega
  | a + 1, b + 1, m, n, h => by
    rw [Nat.pow_succ, Nat.mul_comm (2 ^ a) 2, Nat.mul_assoc, Nat.pow_succ, Nat.mul_comm (2 ^ b) 2, Nat.mul_assoc] at h
    have := pow_odd (a := a) (b := b) (m := m) (n := n) (by omega)
    omega

theorem mcode_inj : ∀ {l m : List Int}, mcode l = mcode m → l = m
  | [], [], _ => rfl
  | [], x :: t, h => by
    have h1 : 0 < 2 ^ (if 0 ≤ x then 2 * x.toNat else 2 * (-x).toNat + 1) * (2 * mcode t + 1) := Nat.mul_pos (Nat.pow_pos (by omega)) (by omega)
    simp only [mcode] at h; omega
  | x :: t, [], h => by
    have h1 : 0 < 2 ^ (if 0 ≤ x then 2 * x.toNat else 2 * (-x).toNat + 1) * (2 * mcode t + 1) := Nat.mul_pos (Nat.pow_pos (by omega)) (by omega)
    simp only [mcode] at h; omega
  | x :: t, y :: u, h => by
    simp only [mcode] at h
    obtain ⟨h1, h2⟩ := pow_odd h
    rw [mcode_inj h2]
    congr 1
    split at h1 <;> split at h1 <;> omega

theorem mapOb_inj {l m : List Int} (h : mapOb l = mapOb m) : l = m := by
  have := congrArg Ob.e h
  change 1 + mcode l = 1 + mcode m at this
  exact mcode_inj (by omega)

/-- A new map. -/
def Hp.newM (H : Hp) (l : List Int) : Hp where
  get := fun i => if i = H.nxt then some (mapOb l) else H.get i
  own := fun i => if i = H.nxt then false else H.own i
  root := fun i => if i = H.nxt then H.nxt else H.root i
  nxt := H.nxt + 1
  wf := fun i hi => by rw [if_neg (by omega)]; exact H.wf i (by omega)
  rt := fun i hi => by
    by_cases e : i = H.nxt
    · rw [if_pos e]; omega
    · rw [if_neg e]; exact H.rt i (by omega)
  ou := fun i j hi hj h1 h2 h3 => by
    by_cases e : i = H.nxt
    · rw [if_pos e] at h1; cases h1
    · by_cases e' : j = H.nxt
      · rw [if_pos e'] at h2; cases h2
      · rw [if_neg e] at h1 h3
        rw [if_neg e'] at h2 h3
        exact H.ou i j (by omega) (by omega) h1 h2 h3

/-- Other contents for a map. -/
def Hp.setM (H : Hp) (id : Nat) (l : List Int) (h : id < H.nxt) : Hp where
  get := fun i => if i = id then some (mapOb l) else H.get i
  own := H.own
  root := H.root
  nxt := H.nxt
  wf := fun i hi => by rw [if_neg (by omega)]; exact H.wf i hi
  rt := H.rt
  ou := H.ou

theorem Calm.newM (H : Hp) (l : List Int) : Calm H (H.newM l) := ⟨Nat.le_succ _, fun id hi => ⟨if_neg (by omega), if_neg (by omega), if_neg (by omega)⟩⟩
theorem Calm.setM {H0 H : Hp} (hc : Calm H0 H) {id : Nat} {l : List Int} (h : id < H.nxt) (hid : H0.nxt ≤ id) : Calm H0 (H.setM id l h) := ⟨hc.1, fun i hi => by
  obtain ⟨e1, e2, e3⟩ := hc.2 i hi
  exact ⟨(if_neg (by omega)).trans e1, e2, e3⟩⟩

theorem HR.newM {B : Nat} {β : Bm} {H : Hp} {w : World} (hr : HR B β H w) : HR B (Bm.set β H.nxt (w.heap.size, none)) (H.newM []) (w.alloc (.map #[] 0)) ∧ Fr B β H w (Bm.set β H.nxt (w.heap.size, none)) (H.newM []) (w.alloc (.map #[] 0)) := by
  have hmono := hr.bump (p := (w.heap.size, none))
  have hgr := grown_alloc w (.map #[] 0)
  have hat := alloc_at w (.map #[] 0)
  have hold : ∀ j, j < w.heap.size → (w.alloc (.map #[] 0)).heap[j]? = w.heap[j]? := fun j hj => hgr.block j hj (by simp)
  have hbase := hr.base
  have gl : ∀ i, i ≠ H.nxt → (H.newM []).get i = H.get i := fun i e => if_neg e
  have ol : ∀ i, i ≠ H.nxt → (H.newM []).own i = H.own i := fun i e => if_neg e
  have rl : ∀ i, i ≠ H.nxt → (H.newM []).root i = H.root i := fun i e => if_neg e
  have gn : (H.newM []).get H.nxt = some (mapOb []) := if_pos rfl
  have on : (H.newM []).own H.nxt = false := if_pos rfl
  refine ⟨⟨?_, ?_, ?_, ?_, ?_, ?_, ?_, ?_, ?_⟩, ?_⟩
  · intro i hi
    have hi' : H.nxt + 1 ≤ i := hi
    rw [Bm.set_ne _ _ (by omega)]
    exact hr.dom i (by omega)
  · intro i b k h
    by_cases e : i = H.nxt
    · subst e; rw [Bm.set_at] at h; cases h
      exact (Array.getElem?_eq_some_iff.1 hat).1
    · rw [Bm.set_ne _ _ e] at h
      exact Nat.lt_of_lt_of_le (hr.blk i b k h) hgr.size
  · intro i ob b k hg hb j v hj
    by_cases e : i = H.nxt
    · subst e
      rw [gn] at hg; cases hg
      simp [mapOb] at hj
    · rw [Bm.set_ne _ _ e] at hb
      rw [gl i e] at hg
      obtain ⟨u, h1, h2⟩ := hr.cell i ob b k hg hb j v hj
      exact ⟨u, by rw [World.cell?_of_block (w := w) (hold b (hr.blk i b k hb))]; exact h1, h2.mono hmono⟩
  · intro i ob b K s hg hb
    by_cases e : i = H.nxt
    · subst e; rw [Bm.set_at] at hb; cases hb
    · rw [Bm.set_ne _ _ e] at hb
      rw [gl i e] at hg
      exact hr.siz i ob b K s hg hb
  · intro i ob b k hg hb ho
    by_cases e : i = H.nxt
    · subst e; rw [on] at ho; cases ho
    · rw [Bm.set_ne _ _ e] at hb
      rw [gl i e] at hg
      rw [ol i e] at ho
      obtain ⟨h1, K1, cur1, h2, h3, h4⟩ := hr.own i ob b k hg hb ho
      exact ⟨h1, K1, cur1, h2, by rw [hold b (hr.blk i b k hb)]; exact h3, h4⟩
  · intro i i' ob1 ob2 b k k' hg hg' hb hb' ho
    by_cases e : i = H.nxt
    · subst e; rw [on] at ho; cases ho
    · rw [Bm.set_ne _ _ e] at hb
      rw [gl i e] at hg
      rw [ol i e] at ho
      by_cases e' : i' = H.nxt
      · subst e'
        rw [Bm.set_at] at hb'; cases hb'
        have := hr.blk i _ _ hb; omega
      · rw [Bm.set_ne _ _ e'] at hb'
        rw [gl i' e'] at hg'
        rw [rl i e, rl i' e', ol i' e']
        exact hr.inj i i' ob1 ob2 b k k' hg hg' hb hb' ho
  · exact Nat.le_trans hr.base hgr.size
  · intro i b k l hg hb
    by_cases e : i = H.nxt
    · subst e
      rw [gn] at hg
      have := mapOb_inj (Option.some.inj hg)
      subst this
      rw [Bm.set_at] at hb; cases hb
      exact ⟨hbase, #[], 0, hat, rfl⟩
    · rw [Bm.set_ne _ _ e] at hb
      rw [gl i e] at hg
      rw [hold b (hr.blk i b k hb)]
      exact hr.mp i b k l hg hb
  · intro i i' b k k' l l' hg hg' hb hb'
    by_cases e : i = H.nxt <;> by_cases e' : i' = H.nxt
    · rw [e, e']
    · exfalso
      subst e
      rw [Bm.set_at] at hb; cases hb
      rw [Bm.set_ne _ _ e'] at hb'
      have := hr.blk i' _ _ hb'; omega
    · exfalso
      subst e'
      rw [Bm.set_at] at hb'; cases hb'
      rw [Bm.set_ne _ _ e] at hb
      have := hr.blk i _ _ hb; omega
    · rw [Bm.set_ne _ _ e] at hb
      rw [Bm.set_ne _ _ e'] at hb'
      rw [gl i e] at hg
      rw [gl i' e'] at hg'
      exact hr.mpi i i' b k k' l l' hg hg' hb hb'
  · exact ⟨fun i hi => Bm.set_ne _ _ (by omega), ⟨hgr.os, hgr.tape, hgr.output, hgr.size, fun j hj => hold j (by omega)⟩, Nat.le_succ _⟩

/-- A map's entries, turned. -/
theorem HR.setM {B : Nat} {β : Bm} {H : Hp} {w : World} (hr : HR B β H w) {id b : Nat} {k : Option (Nat × Nat)} {l l' : List Int} (hid : id < H.nxt) (hg : H.get id = some (mapOb l)) (ho : H.own id = false) (hb : β id = some (b, k)) {es : Array MapEntry} {clock : Nat} (hes : MapIs es l') :
    HR B β (H.setM id l' hid) { w with heap := w.heap.setIfInBounds b (.map es clock) } ∧ Fr B β H w β (H.setM id l' hid) { w with heap := w.heap.setIfInBounds b (.map es clock) } := by
  obtain ⟨hB, es0, clock0, hm, hes0⟩ := hr.mp id b k l hg hb
  have hlt : b < w.heap.size := (Array.getElem?_eq_some_iff.1 hm).1
  have hat : (w.heap.setIfInBounds b (.map es clock))[b]? = some (.map es clock) := by simp [hlt]
  have hold : ∀ j, j ≠ b → (w.heap.setIfInBounds b (.map es clock))[j]? = w.heap[j]? := fun j hj => by simp [Ne.symm hj]
  have gl : ∀ i, i ≠ id → (H.setM id l' hid).get i = H.get i := fun i e => if_neg e
  have gn : (H.setM id l' hid).get id = some (mapOb l') := if_pos rfl
  -- who lies in this block
  have cellNone : ∀ i, w.cell? ⟨b, i, none⟩ = none := fun i => by unfold World.cell?; rw [hm]
  refine ⟨⟨hr.dom, ?_, ?_, ?_, ?_, ?_, ?_, ?_, ?_⟩, ?_⟩
  · intro i b1 k1 h
    show b1 < (w.heap.setIfInBounds b _).size
    rw [Array.size_setIfInBounds]
    exact hr.blk i b1 k1 h
  · intro i ob b1 k1 hg1 hb1 j v hj
    by_cases e : i = id
    · subst e
      rw [gn] at hg1; cases hg1
      simp [mapOb] at hj
    · rw [gl i e] at hg1
      obtain ⟨u, h1, h2⟩ := hr.cell i ob b1 k1 hg1 hb1 j v hj
      have hne : b1 ≠ b := fun h => by rw [h, cellNone] at h1; cases h1
      exact ⟨u, by rw [World.cell?_of_block (w := w) (hold b1 hne)]; exact h1, h2⟩
  · intro i ob b1 K s hg1 hb1
    by_cases e : i = id
    · subst e
      rw [gn] at hg1; cases hg1
      have := hr.siz i (mapOb l) b1 K s hg hb1
      exact absurd (this.1 ▸ this.2) (by show ¬ 0 < 0; omega)
    · rw [gl i e] at hg1
      exact hr.siz i ob b1 K s hg1 hb1
  · intro i ob b1 k1 hg1 hb1 ho1
    by_cases e : i = id
    · subst e
      change H.own i = true at ho1
      rw [ho] at ho1; cases ho1
    · rw [gl i e] at hg1
      obtain ⟨h1, K1, cur1, h2, h3, h4⟩ := hr.own i ob b1 k1 hg1 hb1 ho1
      have hne : b1 ≠ b := fun h => by rw [h, hm] at h3; cases h3
      exact ⟨h1, K1, cur1, h2, by rw [hold b1 hne]; exact h3, h4⟩
  · intro i i' ob1 ob2 b1 k1 k2 hg1 hg2 hb1 hb2 ho1
    by_cases e : i = id
    · subst e
      change H.own i = true at ho1
      rw [ho] at ho1; cases ho1
    · rw [gl i e] at hg1
      by_cases e' : i' = id
      · subst e'
        obtain ⟨_, _, _, _, h3, _⟩ := hr.own i ob1 b1 k1 hg1 hb1 ho1
        rw [hb] at hb2; cases hb2
        rw [hm] at h3; cases h3
      · rw [gl i' e'] at hg2
        exact hr.inj i i' ob1 ob2 b1 k1 k2 hg1 hg2 hb1 hb2 ho1
  · show B ≤ (w.heap.setIfInBounds b _).size
    rw [Array.size_setIfInBounds]
    exact hr.base
  · intro i b1 k1 l1 hg1 hb1
    by_cases e : i = id
    · subst e
      rw [gn] at hg1
      have := mapOb_inj (Option.some.inj hg1)
      subst this
      rw [hb] at hb1; cases hb1
      exact ⟨hB, es, clock, hat, hes⟩
    · rw [gl i e] at hg1
      obtain ⟨h1, es1, c1, h2, h3⟩ := hr.mp i b1 k1 l1 hg1 hb1
      have hne : b1 ≠ b := fun h => by subst h; exact e (hr.mpi id i b1 k k1 l l1 hg hg1 hb hb1)
      exact ⟨h1, es1, c1, by rw [hold b1 hne]; exact h2, h3⟩
  · intro i i' b1 k1 k2 l1 l2 hg1 hg2 hb1 hb2
    have back : ∀ i l1, (H.setM id l' hid).get i = some (mapOb l1) → ∃ l2, H.get i = some (mapOb l2) := fun i l1 h => by
      by_cases e : i = id
      · subst e; exact ⟨l, hg⟩
      · rw [gl i e] at h; exact ⟨l1, h⟩
    obtain ⟨m1, g1⟩ := back i l1 hg1
    obtain ⟨m2, g2⟩ := back i' l2 hg2
    exact hr.mpi i i' b1 k1 k2 m1 m2 g1 g2 hb1 hb2
  · refine ⟨fun _ _ => rfl, ⟨rfl, rfl, rfl, ?_, fun j hj => hold j (by omega)⟩, Nat.le_refl _⟩
    show w.heap.size ≤ (w.heap.setIfInBounds b _).size
    rw [Array.size_setIfInBounds]
    exact Nat.le_refl _

/-- A type of maps from int to bool. -/
def mapT (P : Program) (t : Nat) : Bool :=
  match P.underlying t with
  | some (.map kt et) => (match P.underlying kt with | some (.int .i64) => true | _ => false) && (match P.info? et with | some i => (match i.zero with | some (.bool false) => true | _ => false) | none => false)
  | _ => false

theorem mapT_at {P : Program} {t : Nat} (h : mapT P t = true) : ∃ kt et i, P.underlying t = some (.map kt et) ∧ P.underlying kt = some (.int .i64) ∧ P.info? et = some i ∧ i.zero = some (.bool false) := by
  unfold mapT at h
  split at h
  · rename_i kt et hm
    rw [Bool.and_eq_true] at h
    obtain ⟨h1, h2⟩ := h
    split at h1
    · rename_i hk
      split at h2
      · rename_i i hi
        split at h2
        · rename_i hz
          exact ⟨kt, et, i, hm, hk, hi, hz⟩
        · cases h2
      · cases h2
    · cases h1
  · cases h

/-- A map of the call's own, made since k: its keys. -/
def Mp (k : Nat) (H : Hp) (v : Value) (l : List Int) : Prop := ∃ id, v = .map (some id) ∧ k ≤ id ∧ H.get id = some (mapOb l) ∧ H.own id = false

/-- What is found in a map. -/
theorem find_map : ∀ (es : List MapEntry) (l : List Int) (x : Int) (i : Nat), es.map (fun e => (e.key, e.val)) = (l.map fun x => (Value.int .i64 x, Value.bool true)) →
    (x ∉ l ∧ Instr.findNow (.int .i64) (.int .i64 x) es i = some none) ∨ (x ∈ l ∧ ∃ j e, Instr.findNow (.int .i64) (.int .i64 x) es i = some (some (i + j, .bool true)) ∧ es[j]? = some e ∧ e.key = .int .i64 x ∧ e.val = .bool true)
  | [], [], x, i, _ => .inl ⟨by simp, rfl⟩
  | [], _ :: _, x, i, h => by simp at h
  | _ :: _, [], x, i, h => by simp at h
  | e :: es, y :: l, x, i, h => by
    simp only [List.map_cons, List.cons.injEq, Prod.mk.injEq] at h
    obtain ⟨⟨h1, h2⟩, h3⟩ := h
    by_cases hxy : x = y
    · subst hxy
      exact .inr ⟨by simp, 0, e, by simp [Instr.findNow, h1, h2, Instr.sameNow], rfl, h1, h2⟩
    · have hs : Instr.sameNow (.int .i64) (.int .i64 x) e.key = some false := by rw [h1]; simp [Instr.sameNow, hxy]
      rcases find_map es l x (i + 1) h3 with ⟨g1, g2⟩ | ⟨g1, j, e', g2, g3, g4⟩
      · exact .inl ⟨by simp [hxy, g1], by simp only [Instr.findNow, hs]; exact g2⟩
      · refine .inr ⟨by simp [g1], j + 1, e', ?_, by simpa using g3, g4⟩
        simp only [Instr.findNow, hs]
        rw [g2]
        congr 3
        omega

section
variable {P : Program} {o : Oper} {ρ : Operand → Value} {H : Hp}

theorem aev_makeMap {t : TypeId} (ho : o.op = .makeMap t none) : aev P o ρ H (.map (some H.nxt)) (H.newM []) :=
  aev_intro fun B β a w hxs hr => by
    obtain ⟨h1, h2⟩ := hr.newM
    exact ⟨_, .map (some w.heap.size), _, by simp [execOp, ho, run_makeMap], .map (Bm.set_at _ _ _), h1, h2⟩

theorem aev_lookup {t : TypeId} {x y : Operand} {id : Nat} {l : List Int} {n : Int} (ho : o.op = .lookup t x y false) (ht : mapT P t = true) (hx : ρ x = .map (some id)) (hy : ρ y = .int .i64 n) (hg : H.get id = some (mapOb l)) : aev P o ρ H (.bool (decide (n ∈ l))) H :=
  aev_intro fun B β a w hxs hr => by
    obtain ⟨kt, et, i, m1, m2, m3, m4⟩ := mapT_at ht
    have g1 := hxs x (by rw [ho]; simp [Op.operands])
    have g2 := hxs y (by rw [ho]; simp [Op.operands])
    rw [hx] at g1
    rw [hy] at g2
    have e2 := VR.still_eq rfl g2
    generalize he : a.eval x = u at g1
    cases g1 with
    | map hb =>
      rename_i b k
      obtain ⟨_, es, clock, h3, h4⟩ := hr.mp id b k l hg hb
      refine ⟨β, .bool (decide (n ∈ l)), w, ?_, .bool _, hr, Fr.refl hr⟩
      have hk : MapKept.IsKey (.int .i64) (.int .i64 n) := rfl
      rcases find_map es.toList l n 0 h4 with ⟨g1, g2⟩ | ⟨g1, j, e', g2, g3, g4, g5⟩
      · simp [execOp, ho, he, e2, Instr.lookup, run_underlying m1, MapKept.run_getObj_map h3, MapKept.run_checkKey m2 hk, MapKept.run_findKey m2 g2, Result.andThen, zeroValue, typeInfo, m3, m4, g1]
      · simp [execOp, ho, he, e2, Instr.lookup, run_underlying m1, MapKept.run_getObj_map h3, MapKept.run_checkKey m2 hk, MapKept.run_findKey m2 g2, Result.andThen, g1]

/-- The keys behind a store. -/
def keyIn (l : List Int) (n : Int) : List Int := if n ∈ l then l else l ++ [n]

theorem aev_mapUpdate {t : TypeId} {x y z : Operand} {id : Nat} {l : List Int} {n : Int} (ho : o.op = .mapUpdate t x y z) (ht : mapT P t = true) (hx : ρ x = .map (some id)) (hy : ρ y = .int .i64 n) (hz : ρ z = .bool true) (hid : id < H.nxt) (hg : H.get id = some (mapOb l)) (hlo : H.own id = false) :
    aev P o ρ H undef (H.setM id (keyIn l n) hid) := by
  intro B β a w hxs hr next Q hnx
  obtain ⟨kt, et, i, m1, m2, m3, m4⟩ := mapT_at ht
  have g1 := hxs x (by rw [ho]; simp [Op.operands])
  have g2 := hxs y (by rw [ho]; simp [Op.operands])
  have g3 := hxs z (by rw [ho]; simp [Op.operands])
  rw [hx] at g1
  rw [hy] at g2
  rw [hz] at g3
  have e2 := VR.still_eq rfl g2
  have e3 := VR.still_eq rfl g3
  generalize he : a.eval x = u at g1
  cases g1 with
  | map hb =>
    rename_i b k
    obtain ⟨_, es, clock, h3, h4⟩ := hr.mp id b k l hg hb
    have hk : MapKept.IsKey (.int .i64) (.int .i64 n) := rfl
    have key : ∃ es' clock', (execOp a.eval o).run P w = .ok .skip { w with heap := w.heap.setIfInBounds b (.map es' clock') } ∧ MapIs es' (keyIn l n) := by
      rcases find_map es.toList l n 0 h4 with ⟨g1, g2⟩ | ⟨g1, j, e', g2, g3, g4, g5⟩
      · refine ⟨es.push ⟨.int .i64 n, .bool true, clock⟩, clock + 1, ?_, ?_⟩
        · simp [execOp, ho, he, e2, e3, Instr.mapUpdate, run_underlying m1, MapKept.run_getObj_map h3, MapKept.run_checkKey m2 hk, MapKept.run_findKey m2 g2, MapKept.run_setObj_map _ h3, Result.andThen]
        · unfold MapIs keyIn
          rw [if_neg g1, Array.toList_push, List.map_append, List.map_append]
          unfold MapIs at h4
          rw [h4]
          rfl
      · have hj : es[j]? = some e' := by simpa using g3
        refine ⟨es.modify j fun e => { e with key := .int .i64 n, val := .bool true }, clock, ?_, ?_⟩
        · simp [execOp, ho, he, e2, e3, Instr.mapUpdate, run_underlying m1, MapKept.run_getObj_map h3, MapKept.run_checkKey m2 hk, MapKept.run_findKey m2 g2, hj, g4, MapKept.run_keyThatStays hk, MapKept.run_setObj_map _ h3, Result.andThen]
        · unfold MapIs keyIn
          rw [if_pos g1, ← (show es.toList.map (fun e => (e.key, e.val)) = _ from h4)]
          apply List.ext_getElem?
          intro q
          simp only [List.getElem?_map, Array.getElem?_toList, Array.getElem?_modify]
          by_cases hq : j = q
          · subst hq
            rw [if_pos rfl, hj]
            simp [g4, g5]
          · rw [if_neg hq]
    obtain ⟨es', clock', hrun, hmis⟩ := key
    obtain ⟨h5, h6⟩ := hr.setM hid hg hlo hb (clock := clock') hmis
    unfold Oper.wp
    rw [hrun]
    exact hnx β undef _ VR.undef h5 h6

end

theorem Mp.calm {k : Nat} {H H' : Hp} {v : Value} {l : List Int} (h : Mp k H v l) (hc : Calm H H') : Mp k H' v l := by
  obtain ⟨id, h1, h2, h3, h4⟩ := h
  obtain ⟨e1, e2, _⟩ := hc.2 id (Hp.lt h3)
  exact ⟨id, h1, h2, e1.trans h3, e2.trans h4⟩
theorem Mp.older {k k' : Nat} {H : Hp} {v : Value} {l : List Int} (h : Mp k H v l) (hk : k' ≤ k) : Mp k' H v l := let ⟨id, h1, h2, h3⟩ := h; ⟨id, h1, Nat.le_trans hk h2, h3⟩
theorem keyIn_mem {l : List Int} {n x : Int} : x ∈ keyIn l n ↔ x ∈ l ∨ x = n := by
  unfold keyIn
  split
  · rename_i h; exact ⟨.inl, fun h2 => by rcases h2 with h2 | rfl; exact h2; exact h⟩
  · simp

section
variable {P : Program} {all : Array Oper} {rest : List Oper} {n : Nat} {T : Nat → Value} {H : Hp} {K : St → Prop} {d : Nat} {ty : TypeId} {ps : String} {af : Array Edge} {x y : Operand} {l : List Int} {m : Int} {k : Nat}

theorem Ops.makeMap {t : TypeId} (kk : ∀ v' H', Mp H.nxt H' v' [] → Calm H H' → Ops P false all rest ⟨n, up T d v', H'⟩ K) : Ops P false all (⟨some d, .makeMap t none, ty, ps, af, none⟩ :: rest) ⟨n, T, H⟩ K :=
  .plain (aev_makeMap rfl) (kk _ _ ⟨H.nxt, rfl, Nat.le_refl _, if_pos rfl, if_pos rfl⟩ (Calm.newM H []))

theorem Ops.lookup {t : TypeId} (h : Mp k H (rd T x) l) (ht : mapT P t = true) (hy : rd T y = .int .i64 m) (kk : Ops P false all rest ⟨n, up T d (.bool (decide (m ∈ l))), H⟩ K) : Ops P false all (⟨some d, .lookup t x y false, ty, ps, af, none⟩ :: rest) ⟨n, T, H⟩ K := by
  obtain ⟨id, h1, h2, h3, h4⟩ := h
  exact .plain (aev_lookup rfl ht h1 hy h3) kk

theorem Ops.mapUpdate {t : TypeId} (h : Mp k H (rd T x) l) (ht : mapT P t = true) (hy : rd T y = .int .i64 m) (kk : ∀ H', Mp k H' (rd T x) (keyIn l m) → (∀ H0, H0.nxt ≤ k → Calm H0 H → Calm H0 H') → Ops P false all rest ⟨n, T, H'⟩ K) : Ops P false all (⟨none, .mapUpdate t x y (.const (.bool true)), ty, ps, af, none⟩ :: rest) ⟨n, T, H⟩ K := by
  obtain ⟨id, h1, h2, h3, h4⟩ := h
  have hid := Hp.lt h3
  refine .step0 (StepF.plain (S := ⟨n, T, H⟩) (by rw [rho_eq]; exact aev_mapUpdate rfl ht h1 hy rfl hid h3 h4)) ?_
  exact kk _ ⟨id, h1, h2, if_pos rfl, h4⟩ fun H0 h5 h6 => h6.setM hid (Nat.le_trans h5 h2)

end
end Go.Proofs.Ytefmjpbmdoebaaa
