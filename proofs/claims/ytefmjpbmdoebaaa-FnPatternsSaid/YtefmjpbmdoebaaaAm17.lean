/- The abstract machine, part 17: the world in which a law is called, as an abstract memory; its arguments, as data. -/
import Derived.Test.YtefmjpbmdoebaaaAm16
import Derived.Deep.Slices
import Derived.ChangeShapes
import Derived.Below
set_option linter.unusedVariables false
set_option linter.unusedSimpArgs false
namespace Go.Proofs.Ytefmjpbmdoebaaa
open Go Go.RowKit

/-- A cell's value, as the abstract memory tells it: n blocks are there. -/
def canonC (n : Nat) : Value → Value
  | .bool b => .bool b
  | .int k x => .int k x
  | .string s => .string s
  | .slice none 0 0 => .slice none 0 0
  | .slice (some a) len cap => if cap ≤ maxLen then (if len = 0 then .slice (some void) 0 0 else if a.spot = none ∧ a.block < n ∧ len ≤ cap then .slice (some ⟨a.block, a.off, none⟩) len len else junk) else junk
  | _ => junk

def canonV (n : Nat) : Value → Value
  | .agg xs => .agg (xs.map (canonC n))
  | v => canonC n v

def ofB (n : Nat) : Bm := fun id => if id < n then some (id, none) else none

theorem canonC_rel (n : Nat) (v : Value) : VR (ofB n) (canonC n v) v := by
  unfold canonC
  split
  · exact .bool _
  · exact .int _ _
  · exact .string _
  · exact .nilslice
  · rename_i a len cap
    split
    · rename_i hm
      split
      · rename_i h0
        subst h0
        exact .emp a cap hm
      · split
        · rename_i h
          obtain ⟨h1, h2, h3⟩ := h
          obtain ⟨b, o, s⟩ := a
          dsimp only at h1 h2 ⊢
          subst h1
          exact .slice (k := none) (if_pos h2) (.inl rfl) h3 hm (fun K sz h => by cases h)
        · exact .any _
    · exact .any _
  · exact .any _

theorem canonV_rel (n : Nat) (v : Value) : VR (ofB n) (canonV n v) v := by
  unfold canonV
  split
  · rename_i xs
    refine .agg (by simp) fun i hi => ?_
    have hi' : i < xs.size := by simpa using hi
    rw [Array.getD_eq_getD_getElem?, Array.getD_eq_getD_getElem?, Array.getElem?_map, Array.getElem?_eq_getElem hi']
    exact canonC_rel n _
  · exact canonC_rel n v

/-- The memory of a world: only to be read. -/
def Hp.of (w : World) : Hp where
  get := fun id => match w.heap[id]? with
    | some (.cells cur e _) => some ⟨0, 0, cur.toList.map (canonC w.heap.size)⟩
    | _ => none
  own := fun _ => false
  root := fun i => i
  nxt := w.heap.size
  wf := fun i hi => by rw [Array.getElem?_eq_none hi]
  rt := fun i _ => Nat.le_refl i
  ou := fun i j _ _ h => by cases h

theorem HR.of (w : World) : HR w.heap.size (ofB w.heap.size) (Hp.of w) w := by
  have hb : ∀ id b k, ofB w.heap.size id = some (b, k) → id = b ∧ k = none ∧ id < w.heap.size := by
    intro id b k h
    unfold ofB at h
    split at h
    · cases h; exact ⟨rfl, rfl, by assumption⟩
    · cases h
  have nm : ∀ id l, (Hp.of w).get id ≠ some (mapOb l) := by
    intro id l hg
    change (match w.heap[id]? with | some (.cells cur e _) => some (⟨0, 0, cur.toList.map (canonC w.heap.size)⟩ : Ob) | _ => none) = _ at hg
    split at hg
    · have h5 := congrArg Ob.e (Option.some.inj hg)
      change 0 = 1 + mcode l at h5
      omega
    · cases hg
  refine ⟨fun id hi => if_neg (by have : w.heap.size ≤ id := hi; omega), fun id b k h => by obtain ⟨h1, h2, h3⟩ := hb id b k h; omega, fun id ob b k hg h i v hi => ?_, fun id ob b K s hg h => ?_, fun id ob b k hg h ho => (by cases ho), fun id id' ob ob' b k k' _ _ _ _ ho => (by cases ho), Nat.le_refl _, fun id b k l hg h => absurd hg (nm id l), fun id id' b k k' l l' hg _ _ _ => absurd hg (nm id l)⟩
  · obtain ⟨rfl, rfl, h3⟩ := hb id b k h
    change (match w.heap[id]? with | some (.cells cur e _) => some (⟨0, 0, cur.toList.map (canonC w.heap.size)⟩ : Ob) | _ => none) = some ob at hg
    split at hg
    · rename_i cur e q hc
      cases hg
      dsimp only at hi
      rw [List.getElem?_map] at hi
      obtain ⟨u, hu, rfl⟩ := Option.map_eq_some_iff.1 hi
      refine ⟨u, ?_, canonC_rel _ u⟩
      unfold World.cell?
      rw [hc]
      simpa using hu
    · cases hg
  · obtain ⟨_, h2, _⟩ := hb id b _ h
    cases h2

/-- A law, called in a world. -/
theorem law_mem {P : Program} {f : FuncId} {vs : List Value} {w : World} (h : CallK P f (vs.map (canonV w.heap.size)) (Hp.of w) (fun r _ => r = .bool true)) : Calls P f vs.toArray w fun e w' => e = .returned (.bool true) ∧ Below w.heap.size w w' := by
  obtain ⟨r, H', h1, rfl⟩ := h.out
  refine (h1.2 w.heap.size _ w vs.toArray ⟨by simp, fun j v hj => ?_⟩ (HR.of w)).mono ?_
  · rw [List.getElem?_map] at hj
    obtain ⟨u, hu, rfl⟩ := Option.map_eq_some_iff.1 hj
    exact ⟨u, by simpa using hu, canonV_rel _ u⟩
  · rintro e w' ⟨β', v, rfl, hv, hr, hf⟩
    exact ⟨by rw [VR.still_eq rfl hv], hf.below⟩

/-- Cells that read as data of the type t hold data of the codec c. -/
def Opens (P : Program) {α : Type} (c : Cd α) (t : TypeId) (Q : α → Prop) : Prop :=
  ∀ (X : Type) (enc : TypeId × Value → X) (w : World) (base : Nat) (spare : Nat → Bool) (held : Bool) (fuel : Nat) (cs : List Value) (x : DataW X × List MemPlace),
    DataW.trod enc P w base spare held fuel t cs = some x → ∃ a, Q a ∧ c.ok (Hp.of w) (cs.map (canonC w.heap.size)) a

def InR (n : Int) : Prop := -9223372036854775808 ≤ n ∧ n ≤ 9223372036854775807

section
variable {P : Program} {t e : TypeId}

theorem opens_int (ht : P.underlying t = some (.int .i64)) : Opens P cI t InR := by
  intro X enc w base spare held fuel cs x h
  cases fuel with
  | zero => cases h
  | succ fuel =>
    unfold DataW.trod at h
    rw [ht] at h
    match cs, h with
    | [.int k' n], h =>
      simp only at h
      split at h
      · rename_i hk
        obtain ⟨rfl, hw⟩ := hk
        refine ⟨n, ?_, rfl⟩
        unfold InR
        simp only [Lit.wf, decide_eq_true_eq, Bool.and_eq_true] at hw
        simp [IntKind.min, IntKind.max, IntKind.bits, IntKind.signed] at hw
        omega
      · cases h

theorem opens_byte (ht : P.underlying t = some (.int .u8)) : Opens P cB t (fun n => 0 ≤ n ∧ n ≤ 255) := by
  intro X enc w base spare held fuel cs x h
  cases fuel with
  | zero => cases h
  | succ fuel =>
    unfold DataW.trod at h
    rw [ht] at h
    match cs, h with
    | [.int k' n], h =>
      simp only at h
      split at h
      · rename_i hk
        obtain ⟨rfl, hw⟩ := hk
        refine ⟨n, ?_, rfl⟩
        simp only [Lit.wf, decide_eq_true_eq, Bool.and_eq_true] at hw
        simp [IntKind.min, IntKind.max, IntKind.bits, IntKind.signed] at hw
        omega
      · cases h

theorem mapM_get {α β : Type} {f : α → Option β} : ∀ {l : List α} {ys : List β}, l.mapM f = some ys → ys.length = l.length ∧ ∀ (i : Nat) (x : α), l[i]? = some x → ∃ y, ys[i]? = some y ∧ f x = some y := by
  intro l
  induction l with
  | nil => intro ys h; simp at h; subst h; simp
  | cons a l ih =>
    intro ys h
    rw [List.mapM_cons] at h
    cases h1 : f a with
    | none => rw [h1] at h; cases h
    | some y =>
      rw [h1] at h
      cases h2 : l.mapM f with
      | none => rw [h2] at h; cases h
      | some zs =>
        rw [h2] at h
        cases h
        obtain ⟨g1, g2⟩ := ih h2
        refine ⟨by simp [g1], fun i x hi => ?_⟩
        cases i with
        | zero => simp at hi; subst hi; exact ⟨y, rfl, h1⟩
        | succ i => simpa using g2 i x (by simpa using hi)

theorem add_block (a : Addr) (i : Nat) : (a.add i).block = a.block ∧ (a.add i).off = a.off + i ∧ (a.spot = none → (a.add i).spot = none) := by
  unfold Addr.add
  split
  · rename_i h; subst h; exact ⟨rfl, rfl, fun h => h⟩
  · exact ⟨rfl, rfl, fun _ => rfl⟩

/-- Cells of a block, as the abstract memory has them. -/
theorem cells_of {w : World} {base : Nat} {a : Addr} {n : Nat} {cs : List Value} (h : w.cells? base a n = some cs) (hn : 0 < n) : a.spot = none ∧ a.block < w.heap.size ∧ ∃ ob, (Hp.of w).get a.block = some ob ∧ ob.sz = 0 ∧ cut ob.cs a.off n = cs.map (canonC w.heap.size) := by
  unfold World.cells? at h
  split at h
  · obtain ⟨h1, h2⟩ := mapM_get h
    rw [List.length_range] at h1
    have hcell : ∀ i, i < n → ∃ y, cs[i]? = some y ∧ w.cell? (a.add i) = some y := fun i hi => h2 i i (by simp [hi])
    have hadd := add_block a
    have hadd0 : (a.add 0).spot = a.spot := rfl
    obtain ⟨y0, _, hy0⟩ := hcell 0 hn
    unfold World.cell? at hy0
    rw [(hadd 0).1] at hy0
    cases hb : w.heap[a.block]? with
    | none => rw [hb] at hy0; cases hy0
    | some obj =>
      rw [hb] at hy0
      cases obj with
      | cells cur e q =>
        simp only at hy0
        split at hy0
        · cases hy0
        · rename_i hs
          have hs' : a.spot = none := by
            rw [hadd0] at hs
            cases h3 : a.spot with
            | none => rfl
            | some s => rw [h3] at hs; simp at hs
          refine ⟨hs', (Array.getElem?_eq_some_iff.1 hb).1, ⟨0, 0, cur.toList.map (canonC w.heap.size)⟩, by show (match w.heap[a.block]? with | some (.cells cur e _) => some (⟨0, 0, cur.toList.map (canonC w.heap.size)⟩ : Ob) | _ => none) = _; rw [hb], rfl, ?_⟩
          apply List.ext_getElem?
          intro j
          rcases Nat.lt_or_ge j n with hj | hj
          · obtain ⟨y, g1, g2⟩ := hcell j hj
            rw [cut_get hj, List.getElem?_map, List.getElem?_map, g1]
            unfold World.cell? at g2
            rw [(hadd j).1, hb] at g2
            simp only at g2
            rw [(hadd j).2.2 hs', (hadd j).2.1] at g2
            simp only [Option.isSome_none, Bool.false_eq_true, if_false] at g2
            have : cur.toList[a.off + j]? = some y := by simpa using g2
            rw [this]
          · rw [List.getElem?_eq_none (by unfold cut; rw [List.length_take]; omega), List.getElem?_eq_none (by rw [List.length_map]; omega)]
      | _ => cases hy0
  · cases h

theorem opens_slice {α : Type} {c : Cd α} {Q : α → Prop} (ht : P.underlying t = some (.slice e)) (hc : P.cellsOf e = c.sz) (he : Opens P c e Q) : Opens P (cL c) t (fun l => ∀ x ∈ l, Q x) := by
  intro X enc w base spare held fuel cs x h
  rcases Deep.open_slice ht h with ⟨h1, _⟩ | ⟨a, len, cap, m, n, D, Pl, h1, h2, h3, h4, h5, _, h7⟩
  · subst h1
    exact ⟨[], (fun x hx => (by cases hx)), nilS, rfl, Sl.nil⟩
  · subst h1
    have hm : len ≤ m := by rw [h5]; split <;> omega
    rcases Nat.eq_zero_or_pos len with h0 | h0
    · subst h0
      refine ⟨[], (fun x hx => (by cases hx)), .slice (some void) 0 0, ?_, .inl ⟨rfl, _, rfl, fun a ha hs => (by cases ha; cases hs)⟩⟩
      simp [canonC, h4]
    · rw [hc] at h7
      have hel : ∀ i, i < len → ∃ x, Q x ∧ (i = 0 → a.spot = none) ∧ a.block < w.heap.size ∧ ∃ ob, (Hp.of w).get a.block = some ob ∧ ob.sz = 0 ∧ c.ok (Hp.of w) (cut ob.cs (a.off + i * c.sz) c.sz) x := by
        intro i hi
        obtain ⟨cs', g1, g2⟩ := h7 i (by omega)
        obtain ⟨y, g3, g4⟩ := he X enc w base spare held n cs' _ g2
        obtain ⟨g5, g6, ob, g7, g8, g9⟩ := cells_of g1 c.pos
        obtain ⟨k1, k2, k3⟩ := add_block a (i * c.sz)
        rw [k1] at g6 g7
        rw [k2] at g9
        exact ⟨y, g3, (fun h => (by subst h; rw [Nat.zero_mul] at g5; exact g5)), g6, ob, g7, g8, by rw [g9]; exact g4⟩
      obtain ⟨x0, _, hs0, hbl, ob, hg, hz, _⟩ := hel 0 h0
      have hs := hs0 rfl
      have hf : ∀ i, ∃ x, i < len → Q x ∧ c.ok (Hp.of w) (cut ob.cs (a.off + i * c.sz) c.sz) x := by
        intro i
        by_cases hi : i < len
        · obtain ⟨y, g1, _, _, ob', g2, _, g3⟩ := hel i hi
          rw [hg] at g2; cases g2
          exact ⟨y, fun _ => ⟨g1, g3⟩⟩
        · exact ⟨x0, fun h => absurd h hi⟩
      obtain ⟨f, hf'⟩ : ∃ f : Nat → α, ∀ i, i < len → Q (f i) ∧ c.ok (Hp.of w) (cut ob.cs (a.off + i * c.sz) c.sz) (f i) := ⟨fun i => Classical.choose (hf i), fun i => Classical.choose_spec (hf i)⟩
      refine ⟨(List.range len).map f, fun x hx => ?_, .slice (some ⟨a.block, a.off, none⟩) len len, ?_, .inr ⟨a.block, a.off, ob, by simp, hg, .inr hz, by simp; omega, fun i b hi => ?_⟩⟩
      · obtain ⟨i, hi, rfl⟩ := List.mem_map.1 hx
        exact (hf' i (List.mem_range.1 hi)).1
      · have : len ≠ 0 := by omega
        simp [canonC, h4, this, hs, hbl, h3]
      · rw [List.getElem?_map] at hi
        obtain ⟨j, hj, rfl⟩ := Option.map_eq_some_iff.1 hi
        have hlt : i < len := by have := (List.getElem?_eq_some_iff.1 hj).1; simpa using this
        rw [List.getElem?_range hlt] at hj
        cases hj
        exact (hf' i hlt).2

/-- Two data, one behind the other. -/
theorem opens_struct {ks : List (Nat × Nat × Nat)} {fs : Array Field} (ht : P.underlying t = some (.struct fs)) (hf : fs.toList.map (fun f => (f.type, f.offset, P.cellsOf f.type)) = ks) {X : Type} {enc : TypeId × Value → X} {w : World} {base : Nat} {spare : Nat → Bool} {held : Bool} {fuel : Nat} {cs : List Value} {x : DataW X × List MemPlace}
    (h : DataW.trod enc P w base spare held (fuel + 1) t cs = some x) : cs.length = P.cellsOf t ∧ ∀ (i : Nat) (q : Nat × Nat × Nat), ks[i]? = some q → ∃ y, DataW.trod enc P w base spare held fuel q.1 ((cs.drop q.2.1).take q.2.2) = some y := by
  subst hf
  unfold DataW.trod at h
  rw [ht] at h
  have h' : (if cs.length = P.cellsOf t then (fs.toList.mapM fun f => DataW.trod enc P w base spare held fuel f.type ((cs.drop f.offset).take (P.cellsOf f.type))).map fun xs => (DataW.agg (xs.map (·.1)), xs.flatMap (·.2)) else none) = some x := by
    cases cs <;> exact h
  split at h'
  · rename_i hl
    refine ⟨hl, fun i q hq => ?_⟩
    obtain ⟨xs, h1, _⟩ := Option.map_eq_some_iff.1 h'
    obtain ⟨h2, h3⟩ := mapM_get h1
    rw [List.getElem?_map] at hq
    obtain ⟨f, hf, rfl⟩ := Option.map_eq_some_iff.1 hq
    obtain ⟨y, _, h5⟩ := h3 i f hf
    exact ⟨y, h5⟩
  · cases h'

theorem okWide_struct_ {fs : Array Field} {W : World} {r : Go.Reach} {base : Nat} {v : Value} (ht : P.underlying t = some (.struct fs)) (h : Value.okWide P W r base t v) : ∃ b, v = .agg b ∧ b.size = P.cellsOf t ∧ Row.okWide P W r base t b := by
  unfold Value.okWide at h
  rw [ht] at h
  exact h

end
end Go.Proofs.Ytefmjpbmdoebaaa
