/- Part 2 of the proof of a law; no condition. The last part has the theorem. -/
import Derived.Test.YtefmjpbmdoebaaaZFnExactWidenSet1
import Derived.Deep.Slices
import Derived.ChangeShapes
import Derived.Below
import Derived.Test.YtefmjpbmdoebaaaProg
import Derived.Test.YtefmjpbmdoebaaaChecked

/- The abstract machine, part 17: the world in which a law is called, as an abstract memory; its arguments, as data. -/
set_option linter.unusedVariables false
set_option linter.unusedSimpArgs false
namespace Go.Proofs.Ytefmjpbmdoebaaa
open Go Go.RowKit

/-- A cell's value, as the abstract memory tells it: n blocks are there. -/
def canonC (n : Nat) : Value → Value
  | .bool b => .bool b
  | .int k x => .int k x
  | .string s => .string s
  | .slice none 0 0 => .slice none 0 0
  | .slice (some a) len cap => if cap ≤ maxLen then (if len = 0 then .slice (some void) 0 0 else if a.spot = none ∧ a.block < n ∧ len ≤ cap then .slice (some ⟨a.block, a.off, none⟩) len len else junk) else junk
  | _ => junk

def canonV (n : Nat) : Value → Value
  | .agg xs => .agg (xs.map (canonC n))
  | v => canonC n v

def ofB (n : Nat) : Bm := fun id => if id < n then some (id, none) else none

theorem canonC_rel (n : Nat) (v : Value) : VR (ofB n) (canonC n v) v := by
  unfold canonC
  split
  · exact .bool _
  · exact .int _ _
  · exact .string _
  · exact .nilslice
  · rename_i a len cap
    split
    · rename_i hm
      split
      · rename_i h0
        subst h0
        exact .emp a cap hm
      · split
        · rename_i h
          obtain ⟨h1, h2, h3⟩ := h
          obtain ⟨b, o, s⟩ := a
          dsimp only at h1 h2 ⊢
          subst h1
          exact .slice (k := none) (if_pos h2) (.inl rfl) h3 hm (fun K sz h => by cases h)
        · exact .any _
    · exact .any _
  · exact .any _

theorem canonV_rel (n : Nat) (v : Value) : VR (ofB n) (canonV n v) v := by
  unfold canonV
  split
  · rename_i xs
    refine .agg (by simp) fun i hi => ?_
    have hi' : i < xs.size := by simpa using hi
    rw [Array.getD_eq_getD_getElem?, Array.getD_eq_getD_getElem?, Array.getElem?_map, Array.getElem?_eq_getElem hi']
    exact canonC_rel n _
  · exact canonC_rel n v

/-- The memory of a world: only to be read. -/
def Hp.of (w : World) : Hp where
  get := fun id => match w.heap[id]? with
    | some (.cells cur e _) => some ⟨0, 0, cur.toList.map (canonC w.heap.size)⟩
    | _ => none
  own := fun _ => false
  root := fun i => i
  nxt := w.heap.size
  wf := fun i hi => by rw [Array.getElem?_eq_none hi]
  rt := fun i _ => Nat.le_refl i
  ou := fun i j _ _ h => by cases h

theorem HR.of (w : World) : HR w.heap.size (ofB w.heap.size) (Hp.of w) w := by
  have hb : ∀ id b k, ofB w.heap.size id = some (b, k) → id = b ∧ k = none ∧ id < w.heap.size := by
    intro id b k h
    unfold ofB at h
    split at h
    · cases h; exact ⟨rfl, rfl, by assumption⟩
    · cases h
  have nm : ∀ id l, (Hp.of w).get id ≠ some (mapOb l) := by
    intro id l hg
    change (match w.heap[id]? with | some (.cells cur e _) => some (⟨0, 0, cur.toList.map (canonC w.heap.size)⟩ : Ob) | _ => none) = _ at hg
    split at hg
    · have h5 := congrArg Ob.e (Option.some.inj hg)
      change 0 = 1 + mcode l at h5
      omega
    · cases hg
  refine ⟨fun id hi => if_neg (by have : w.heap.size ≤ id := hi; omega), fun id b k h => by obtain ⟨h1, h2, h3⟩ := hb id b k h; omega, fun id ob b k hg h i v hi => ?_, fun id ob b K s hg h => ?_, fun id ob b k hg h ho => (by cases ho), fun id id' ob ob' b k k' _ _ _ _ ho => (by cases ho), Nat.le_refl _, fun id b k l hg h => absurd hg (nm id l), fun id id' b k k' l l' hg _ _ _ => absurd hg (nm id l)⟩
  · obtain ⟨rfl, rfl, h3⟩ := hb id b k h
    change (match w.heap[id]? with | some (.cells cur e _) => some (⟨0, 0, cur.toList.map (canonC w.heap.size)⟩ : Ob) | _ => none) = some ob at hg
    split at hg
    · rename_i cur e q hc
      cases hg
      dsimp only at hi
      rw [List.getElem?_map] at hi
      obtain ⟨u, hu, rfl⟩ := Option.map_eq_some_iff.1 hi
      refine ⟨u, ?_, canonC_rel _ u⟩
      unfold World.cell?
      rw [hc]
      simpa using hu
    · cases hg
  · obtain ⟨_, h2, _⟩ := hb id b _ h
    cases h2

/-- A law, called in a world. -/
theorem law_mem {P : Program} {f : FuncId} {vs : List Value} {w : World} (h : CallK P f (vs.map (canonV w.heap.size)) (Hp.of w) (fun r _ => r = .bool true)) : Calls P f vs.toArray w fun e w' => e = .returned (.bool true) ∧ Below w.heap.size w w' := by
  obtain ⟨r, H', h1, rfl⟩ := h.out
  refine (h1.2 w.heap.size _ w vs.toArray ⟨by simp, fun j v hj => ?_⟩ (HR.of w)).mono ?_
  · rw [List.getElem?_map] at hj
    obtain ⟨u, hu, rfl⟩ := Option.map_eq_some_iff.1 hj
    exact ⟨u, by simpa using hu, canonV_rel _ u⟩
  · rintro e w' ⟨β', v, rfl, hv, hr, hf⟩
    exact ⟨by rw [VR.still_eq rfl hv], hf.below⟩

/-- Cells that read as data of the type t hold data of the codec c. -/
def Opens (P : Program) {α : Type} (c : Cd α) (t : TypeId) (Q : α → Prop) : Prop :=
  ∀ (X : Type) (enc : TypeId × Value → X) (w : World) (base : Nat) (spare : Nat → Bool) (held : Bool) (fuel : Nat) (cs : List Value) (x : DataW X × List MemPlace),
    DataW.trod enc P w base spare held fuel t cs = some x → ∃ a, Q a ∧ c.ok (Hp.of w) (cs.map (canonC w.heap.size)) a

def InR (n : Int) : Prop := -9223372036854775808 ≤ n ∧ n ≤ 9223372036854775807

section
variable {P : Program} {t e : TypeId}

theorem opens_int (ht : P.underlying t = some (.int .i64)) : Opens P cI t InR := by
  intro X enc w base spare held fuel cs x h
  cases fuel with
  | zero => cases h
  | succ fuel =>
    unfold DataW.trod at h
    rw [ht] at h
    match cs, h with
    | [.int k' n], h =>
      simp only at h
      split at h
      · rename_i hk
        obtain ⟨rfl, hw⟩ := hk
        refine ⟨n, ?_, rfl⟩
        unfold InR
        simp only [Lit.wf, decide_eq_true_eq, Bool.and_eq_true] at hw
        simp [IntKind.min, IntKind.max, IntKind.bits, IntKind.signed] at hw
        omega
      · cases h

theorem opens_byte (ht : P.underlying t = some (.int .u8)) : Opens P cB t (fun n => 0 ≤ n ∧ n ≤ 255) := by
  intro X enc w base spare held fuel cs x h
  cases fuel with
  | zero => cases h
  | succ fuel =>
    unfold DataW.trod at h
    rw [ht] at h
    match cs, h with
    | [.int k' n], h =>
      simp only at h
      split at h
      · rename_i hk
        obtain ⟨rfl, hw⟩ := hk
        refine ⟨n, ?_, rfl⟩
        simp only [Lit.wf, decide_eq_true_eq, Bool.and_eq_true] at hw
        simp [IntKind.min, IntKind.max, IntKind.bits, IntKind.signed] at hw
        omega
      · cases h

theorem mapM_get {α β : Type} {f : α → Option β} : ∀ {l : List α} {ys : List β}, l.mapM f = some ys → ys.length = l.length ∧ ∀ (i : Nat) (x : α), l[i]? = some x → ∃ y, ys[i]? = some y ∧ f x = some y := by
  intro l
  induction l with
  | nil => intro ys h; simp at h; subst h; simp
  | cons a l ih =>
    intro ys h
    rw [List.mapM_cons] at h
    cases h1 : f a with
    | none => rw [h1] at h; cases h
    | some y =>
      rw [h1] at h
      cases h2 : l.mapM f with
      | none => rw [h2] at h; cases h
      | some zs =>
        rw [h2] at h
        cases h
        obtain ⟨g1, g2⟩ := ih h2
        refine ⟨by simp [g1], fun i x hi => ?_⟩
        cases i with
        | zero => simp at hi; subst hi; exact ⟨y, rfl, h1⟩
        | succ i => simpa using g2 i x (by simpa using hi)

theorem add_block (a : Addr) (i : Nat) : (a.add i).block = a.block ∧ (a.add i).off = a.off + i ∧ (a.spot = none → (a.add i).spot = none) := by
  unfold Addr.add
  split
  · rename_i h; subst h; exact ⟨rfl, rfl, fun h => h⟩
  · exact ⟨rfl, rfl, fun _ => rfl⟩

/-- Cells of a block, as the abstract memory has them. -/
theorem cells_of {w : World} {base : Nat} {a : Addr} {n : Nat} {cs : List Value} (h : w.cells? base a n = some cs) (hn : 0 < n) : a.spot = none ∧ a.block < w.heap.size ∧ ∃ ob, (Hp.of w).get a.block = some ob ∧ ob.sz = 0 ∧ cut ob.cs a.off n = cs.map (canonC w.heap.size) := by
  unfold World.cells? at h
  split at h
  · obtain ⟨h1, h2⟩ := mapM_get h
    rw [List.length_range] at h1
    have hcell : ∀ i, i < n → ∃ y, cs[i]? = some y ∧ w.cell? (a.add i) = some y := fun i hi => h2 i i (by simp [hi])
    have hadd := add_block a
    have hadd0 : (a.add 0).spot = a.spot := rfl
    obtain ⟨y0, _, hy0⟩ := hcell 0 hn
    unfold World.cell? at hy0
    rw [(hadd 0).1] at hy0
    cases hb : w.heap[a.block]? with
    | none => rw [hb] at hy0; cases hy0
    | some obj =>
      rw [hb] at hy0
      cases obj with
      | cells cur e q =>
        simp only at hy0
        split at hy0
        · cases hy0
        · rename_i hs
          have hs' : a.spot = none := by
            rw [hadd0] at hs
            cases h3 : a.spot with
            | none => rfl
            | some s => rw [h3] at hs; simp at hs
          refine ⟨hs', (Array.getElem?_eq_some_iff.1 hb).1, ⟨0, 0, cur.toList.map (canonC w.heap.size)⟩, by show (match w.heap[a.block]? with | some (.cells cur e _) => some (⟨0, 0, cur.toList.map (canonC w.heap.size)⟩ : Ob) | _ => none) = _; rw [hb], rfl, ?_⟩
          apply List.ext_getElem?
          intro j
          rcases Nat.lt_or_ge j n with hj | hj
          · obtain ⟨y, g1, g2⟩ := hcell j hj
            rw [cut_get hj, List.getElem?_map, List.getElem?_map, g1]
            unfold World.cell? at g2
            rw [(hadd j).1, hb] at g2
            simp only at g2
            rw [(hadd j).2.2 hs', (hadd j).2.1] at g2
            simp only [Option.isSome_none, Bool.false_eq_true, if_false] at g2
            have : cur.toList[a.off + j]? = some y := by simpa using g2
            rw [this]
          · rw [List.getElem?_eq_none (by unfold cut; rw [List.length_take]; omega), List.getElem?_eq_none (by rw [List.length_map]; omega)]
      | _ => cases hy0
  · cases h

theorem opens_slice {α : Type} {c : Cd α} {Q : α → Prop} (ht : P.underlying t = some (.slice e)) (hc : P.cellsOf e = c.sz) (he : Opens P c e Q) : Opens P (cL c) t (fun l => ∀ x ∈ l, Q x) := by
  intro X enc w base spare held fuel cs x h
  rcases Deep.open_slice ht h with ⟨h1, _⟩ | ⟨a, len, cap, m, n, D, Pl, h1, h2, h3, h4, h5, _, h7⟩
  · subst h1
    exact ⟨[], (fun x hx => (by cases hx)), nilS, rfl, Sl.nil⟩
  · subst h1
    have hm : len ≤ m := by rw [h5]; split <;> omega
    rcases Nat.eq_zero_or_pos len with h0 | h0
    · subst h0
      refine ⟨[], (fun x hx => (by cases hx)), .slice (some void) 0 0, ?_, .inl ⟨rfl, _, rfl, fun a ha hs => (by cases ha; cases hs)⟩⟩
      simp [canonC, h4]
    · rw [hc] at h7
      have hel : ∀ i, i < len → ∃ x, Q x ∧ (i = 0 → a.spot = none) ∧ a.block < w.heap.size ∧ ∃ ob, (Hp.of w).get a.block = some ob ∧ ob.sz = 0 ∧ c.ok (Hp.of w) (cut ob.cs (a.off + i * c.sz) c.sz) x := by
        intro i hi
        obtain ⟨cs', g1, g2⟩ := h7 i (by omega)
        obtain ⟨y, g3, g4⟩ := he X enc w base spare held n cs' _ g2
        obtain ⟨g5, g6, ob, g7, g8, g9⟩ := cells_of g1 c.pos
        obtain ⟨k1, k2, k3⟩ := add_block a (i * c.sz)
        rw [k1] at g6 g7
        rw [k2] at g9
        exact ⟨y, g3, (fun h => (by subst h; rw [Nat.zero_mul] at g5; exact g5)), g6, ob, g7, g8, by rw [g9]; exact g4⟩
      obtain ⟨x0, _, hs0, hbl, ob, hg, hz, _⟩ := hel 0 h0
      have hs := hs0 rfl
      have hf : ∀ i, ∃ x, i < len → Q x ∧ c.ok (Hp.of w) (cut ob.cs (a.off + i * c.sz) c.sz) x := by
        intro i
        by_cases hi : i < len
        · obtain ⟨y, g1, _, _, ob', g2, _, g3⟩ := hel i hi
          rw [hg] at g2; cases g2
          exact ⟨y, fun _ => ⟨g1, g3⟩⟩
        · exact ⟨x0, fun h => absurd h hi⟩
      obtain ⟨f, hf'⟩ : ∃ f : Nat → α, ∀ i, i < len → Q (f i) ∧ c.ok (Hp.of w) (cut ob.cs (a.off + i * c.sz) c.sz) (f i) := ⟨fun i => Classical.choose (hf i), fun i => Classical.choose_spec (hf i)⟩
      refine ⟨(List.range len).map f, fun x hx => ?_, .slice (some ⟨a.block, a.off, none⟩) len len, ?_, .inr ⟨a.block, a.off, ob, by simp, hg, .inr hz, by simp; omega, fun i b hi => ?_⟩⟩
      · obtain ⟨i, hi, rfl⟩ := List.mem_map.1 hx
        exact (hf' i (List.mem_range.1 hi)).1
      · have : len ≠ 0 := by omega
        simp [canonC, h4, this, hs, hbl, h3]
      · rw [List.getElem?_map] at hi
        obtain ⟨j, hj, rfl⟩ := Option.map_eq_some_iff.1 hi
        have hlt : i < len := by have := (List.getElem?_eq_some_iff.1 hj).1; simpa using this
        rw [List.getElem?_range hlt] at hj
        cases hj
        exact (hf' i hlt).2

/-- Two data, one behind the other. -/
theorem opens_struct {ks : List (Nat × Nat × Nat)} {fs : Array Field} (ht : P.underlying t = some (.struct fs)) (hf : fs.toList.map (fun f => (f.type, f.offset, P.cellsOf f.type)) = ks) {X : Type} {enc : TypeId × Value → X} {w : World} {base : Nat} {spare : Nat → Bool} {held : Bool} {fuel : Nat} {cs : List Value} {x : DataW X × List MemPlace}
    (h : DataW.trod enc P w base spare held (fuel + 1) t cs = some x) : cs.length = P.cellsOf t ∧ ∀ (i : Nat) (q : Nat × Nat × Nat), ks[i]? = some q → ∃ y, DataW.trod enc P w base spare held fuel q.1 ((cs.drop q.2.1).take q.2.2) = some y := by
  subst hf
  unfold DataW.trod at h
  rw [ht] at h
  have h' : (if cs.length = P.cellsOf t then (fs.toList.mapM fun f => DataW.trod enc P w base spare held fuel f.type ((cs.drop f.offset).take (P.cellsOf f.type))).map fun xs => (DataW.agg (xs.map (·.1)), xs.flatMap (·.2)) else none) = some x := by
    cases cs <;> exact h
  split at h'
  · rename_i hl
    refine ⟨hl, fun i q hq => ?_⟩
    obtain ⟨xs, h1, _⟩ := Option.map_eq_some_iff.1 h'
    obtain ⟨h2, h3⟩ := mapM_get h1
    rw [List.getElem?_map] at hq
    obtain ⟨f, hf, rfl⟩ := Option.map_eq_some_iff.1 hq
    obtain ⟨y, _, h5⟩ := h3 i f hf
    exact ⟨y, h5⟩
  · cases h'

theorem okWide_struct_ {fs : Array Field} {W : World} {r : Go.Reach} {base : Nat} {v : Value} (ht : P.underlying t = some (.struct fs)) (h : Value.okWide P W r base t v) : ∃ b, v = .agg b ∧ b.size = P.cellsOf t ∧ Row.okWide P W r base t b := by
  unfold Value.okWide at h
  rw [ht] at h
  exact h

end
end Go.Proofs.Ytefmjpbmdoebaaa

/- The abstract machine, part 18: calls of function values, parts of results; propositions as truth values. -/
set_option linter.unusedVariables false
set_option linter.unusedSimpArgs false
namespace Go.Proofs.Ytefmjpbmdoebaaa
open Go Go.RowKit

/-- Does it hold? -/
noncomputable def dec (p : Prop) : Bool := @decide p (Classical.propDecidable p)
theorem dec_t {p : Prop} (h : p) : dec p = true := by unfold dec; simp [h]
theorem dec_f {p : Prop} (h : ¬ p) : dec p = false := by unfold dec; simp [h]
theorem of_dec_t {p : Prop} (h : dec p = true) : p := by unfold dec at h; simpa using h
theorem of_dec_f {p : Prop} (h : dec p = false) : ¬ p := by unfold dec at h; simpa using h

section
variable {P : Program} {fl : Bool} {all : Array Oper} {rest : List Oper} {n : Nat} {T : Nat → Value} {H H' : Hp} {K : St → Prop} {d : Nat} {ty : TypeId} {ps : String} {af : Array Edge} {v : Value} {x : Operand}

theorem Ops.callV {f : Operand} {g : FuncId} {first caps : Array Value} {xs : Array Operand} {ts : Array TypeId} {K' : Value → Hp → Prop} (hf : rd T f = .func (.func g) first caps) (h : CallK P g (first.toList ++ xs.toList.map (rd T) ++ caps.toList) H K') (hg : ∀ r H', K' r H' → fl = true → GE H H')
    (k : ∀ r H', K' r H' → Ops P fl all rest ⟨n, up T d r, H'⟩ K) :
    Ops P fl all (⟨some d, .call { callee := .value f, args := xs, argTypes := ts }, ty, ps, af, none⟩ :: rest) ⟨n, T, H⟩ K := by
  obtain ⟨r, H', h1, h2⟩ := h.out
  exact .chain rfl (aev_call rfl hf h1) (hg r H' h2) (k r H' h2)

/-- A call of a function value whose result is a truth value: both ways. -/
theorem Ops.callVB {f : Operand} {g : FuncId} {first caps : Array Value} {xs : Array Operand} {ts : Array TypeId} {b : Bool} (hf : rd T f = .func (.func g) first caps) (h : acall P g (first.toList ++ xs.toList.map (rd T) ++ caps.toList) H (.bool b) H)
    (k1 : b = true → Ops P fl all rest ⟨n, up T d (.bool true), H⟩ K) (k2 : b = false → Ops P fl all rest ⟨n, up T d (.bool false), H⟩ K) :
    Ops P fl all (⟨some d, .call { callee := .value f, args := xs, argTypes := ts }, ty, ps, af, none⟩ :: rest) ⟨n, T, H⟩ K := by
  cases b
  · exact .chain rfl (aev_call rfl hf h) (fun _ => GE.refl' H) (k2 rfl)
  · exact .chain rfl (aev_call rfl hf h) (fun _ => GE.refl' H) (k1 rfl)

/-- Two truth values that are the same. -/
theorem Ops.bne_same {t u : TypeId} {y : Operand} {b : Bool} (hx : rd T x = .bool b) (hy : rd T y = .bool b) (ht : P.underlying t = some .bool) (k : Ops P fl all rest ⟨n, up T d (.bool false), H⟩ K) :
    Ops P fl all (⟨some d, .binOp .neq t x y u, ty, ps, af, none⟩ :: rest) ⟨n, T, H⟩ K :=
  .go rfl (fun H => by have := aev_bne (P := P) (o := ⟨some d, .binOp .neq t x y u, ty, ps, af, none⟩) (ρ := rd T) (H := H) rfl hx hy ht; simpa using this) k

theorem Ops.extract {j : Nat} {vs : Array Value} (hx : rd T x = .tuple vs) (hv : vs[j]? = some v) (k : Ops P fl all rest ⟨n, up T d v, H⟩ K) :
    Ops P fl all (⟨some d, .extract x j, ty, ps, af, none⟩ :: rest) ⟨n, T, H⟩ K := .go rfl (fun _ => aev_extract rfl hx hv) k

end
end Go.Proofs.Ytefmjpbmdoebaaa

/- The abstract machine: the rules of a straight walk, with their side conditions found by themselves. -/
set_option linter.unusedVariables false
namespace Go.Proofs.Ytefmjpbmdoebaaa
open Go Go.RowKit

section
variable {P : Program} {S : St} {K : Exit → St → Prop}
theorem wA {x y : Code} (h : Run P x S (thn P y K)) : Run P (.seq x y) S K := .seq h
theorem wB {id n : Nat} {T : Nat → Value} {H : Hp} {ops : Array Oper} (h : Ops P false ops ops.toList ⟨n, T, H⟩ (K .normal)) (hok : opsOK n ops = true := by kernel_rfl) : Run P (.region id ops false) ⟨n, T, H⟩ K := .region hok h
theorem wC {c : Operand} {x y : Code} (h : Run P x S K) (hok : opndOK S.n c = true := by exact rfl) (hc : rd S.T c = .bool true := by exact rfl) : Run P (.cond c x y) S K := .cond_t hok hc h
theorem wD {c : Operand} {x y : Code} (h : Run P y S K) (hok : opndOK S.n c = true := by exact rfl) (hc : rd S.T c = .bool false := by exact rfl) : Run P (.cond c x y) S K := .cond_f hok hc h
theorem wE (h : K .normal S) : Run P .skip S K := .skip h
theorem wF {i : Nat} (h : K (.exit i) S) : Run P (.exit i) S K := .exit h
theorem wG {i : Nat} {c : Code} (h : Run P c S (blk i K)) : Run P (.block i c) S K := .block h
end

section
variable {P : Program} {fl : Bool} {all : Array Oper} {rest : List Oper} {n : Nat} {T : Nat → Value} {H : Hp} {K : St → Prop} {d : Nat} {ty : TypeId} {ps : String} {af : Array Edge} {v : Value} {x y z : Operand} {op : Op}
theorem wH {S : St} (h : K S) : Ops P fl all [] S K := .nil h
theorem wI (k : Ops P fl all rest ⟨n, up T d v, H⟩ K) (hx : rd T x = v := by conv => lhs; whnf) : Ops P fl all (⟨some d, .move x, ty, ps, af, none⟩ :: rest) ⟨n, T, H⟩ K := .move hx k
theorem wJ (k : Ops P fl all rest ⟨n, up T d v, H⟩ K) (hx : rd T x = v := by conv => lhs; whnf) : Ops P fl all (⟨some d, .assign x, ty, ps, af, none⟩ :: rest) ⟨n, T, H⟩ K := .assign hx k
theorem wK {α : Type} {c : Cd α} {l : List α} {t : TypeId} (k : Ops P fl all rest ⟨n, up T d (.int .i64 l.length), H⟩ K) (h : Sl c H (rd T x) l := by assumption) (ht : slA P t c.sz = true := by kernel_rfl) :
    Ops P fl all (⟨some d, .call { callee := .builtin .len, args := #[x], argTypes := #[t] }, ty, ps, af, none⟩ :: rest) ⟨n, T, H⟩ K := .len h ht k
theorem wL {α : Type} {c : Cd α} {l : List α} {e k0 : Nat} {t : TypeId} (k : Ops P fl all rest ⟨n, up T d (.int .i64 l.length), H⟩ K) (h : Ac c e k0 H (rd T x) l := by assumption) (ht : slA P t c.sz = true := by kernel_rfl) :
    Ops P fl all (⟨some d, .call { callee := .builtin .len, args := #[x], argTypes := #[t] }, ty, ps, af, none⟩ :: rest) ⟨n, T, H⟩ K := .len h.sl ht k
theorem wM {t u : TypeId} {a b : Int} (k : Ops P fl all rest ⟨n, up T d (.int .i64 (a + b)), H⟩ K) (hx : rd T x = .int .i64 a := by exact rfl) (hy : rd T y = .int .i64 b := by exact rfl) (h1 : -9223372036854775808 ≤ a + b := by omega) (h2 : a + b ≤ 9223372036854775807 := by omega) :
    Ops P fl all (⟨some d, .binOp .add t x y u, ty, ps, af, none⟩ :: rest) ⟨n, T, H⟩ K := .add hx hy h1 h2 k
theorem wN {t u : TypeId} {a b : Int} (k : Ops P fl all rest ⟨n, up T d (.int .i64 (a - b)), H⟩ K) (hx : rd T x = .int .i64 a := by exact rfl) (hy : rd T y = .int .i64 b := by exact rfl) (h1 : -9223372036854775808 ≤ a - b := by omega) (h2 : a - b ≤ 9223372036854775807 := by omega) :
    Ops P fl all (⟨some d, .binOp .sub t x y u, ty, ps, af, none⟩ :: rest) ⟨n, T, H⟩ K := .sub hx hy h1 h2 k
theorem wO {t : TypeId} (k : Ops P fl all rest ⟨n, up T d (.bool false), H⟩ K) (hx : rd T x = .bool true := by exact rfl) : Ops P fl all (⟨some d, .unOp .not t x, ty, ps, af, none⟩ :: rest) ⟨n, T, H⟩ K := .not_t hx k
theorem wP {t : TypeId} (k : Ops P fl all rest ⟨n, up T d (.bool true), H⟩ K) (hx : rd T x = .bool false := by exact rfl) : Ops P fl all (⟨some d, .unOp .not t x, ty, ps, af, none⟩ :: rest) ⟨n, T, H⟩ K := .not_f hx k
theorem wQ (k : Ops P fl all rest ⟨n, up T d v, H⟩ K) (hc : rd T x = .bool true := by exact rfl) (hy : rd T y = v := by conv => lhs; whnf) : Ops P fl all (⟨some d, .pick x y z, ty, ps, af, none⟩ :: rest) ⟨n, T, H⟩ K := .pick_t hc hy k
theorem wR (k : Ops P fl all rest ⟨n, up T d v, H⟩ K) (hc : rd T x = .bool false := by exact rfl) (hy : rd T z = v := by conv => lhs; whnf) : Ops P fl all (⟨some d, .pick x y z, ty, ps, af, none⟩ :: rest) ⟨n, T, H⟩ K := .pick_f hc hy k
theorem wS {j : Nat} {vs : Array Value} (k : Ops P fl all rest ⟨n, up T d v, H⟩ K) (hx : rd T x = .tuple vs := by exact rfl) (hv : vs[j]? = some v := by exact rfl) : Ops P fl all (⟨some d, .extract x j, ty, ps, af, none⟩ :: rest) ⟨n, T, H⟩ K := .extract hx hv k
theorem wT {dst : Option Nat} {j dj : Nat} {b : Bool} (h : Ops P fl all (⟨dst, op, ty, ps, af, none⟩ :: rest) ⟨n, T, H⟩ K) (hj : (all[j]?).bind (·.dst) = some dj := by exact rfl) (hb : T dj = .bool b := by exact rfl) : Ops P fl all (⟨dst, op, ty, ps, af, some (j, b)⟩ :: rest) ⟨n, T, H⟩ K := .un hj hb h
theorem Ops.noD {d0 j dj : Nat} {b c0 : Bool} (hj : (all[j]?).bind (·.dst) = some dj) (hb : T dj = .bool b) (hne : b = !c0) (h : Ops P fl all rest ⟨n, up T d0 undef, H⟩ K) : Ops P fl all (⟨some d0, op, ty, ps, af, some (j, c0)⟩ :: rest) ⟨n, T, H⟩ K := Ops.no hj hb hne h
theorem Ops.no_uD {d0 j dj : Nat} {c0 : Bool} (hj : (all[j]?).bind (·.dst) = some dj) (hb : T dj = undef) (h : Ops P fl all rest ⟨n, up T d0 undef, H⟩ K) : Ops P fl all (⟨some d0, op, ty, ps, af, some (j, c0)⟩ :: rest) ⟨n, T, H⟩ K := Ops.no_u hj hb h
theorem wU {d0 j dj : Nat} {b c0 : Bool} (h : Ops P fl all rest ⟨n, up T d0 undef, H⟩ K) (hj : (all[j]?).bind (·.dst) = some dj := by exact rfl) (hb : T dj = .bool b := by exact rfl) (hne : b = !c0 := by exact rfl) : Ops P fl all (⟨some d0, op, ty, ps, af, some (j, c0)⟩ :: rest) ⟨n, T, H⟩ K := .noD hj hb hne h
theorem wV {d0 j dj : Nat} {c0 : Bool} (h : Ops P fl all rest ⟨n, up T d0 undef, H⟩ K) (hj : (all[j]?).bind (·.dst) = some dj := by exact rfl) (hb : T dj = undef := by exact rfl) : Ops P fl all (⟨some d0, op, ty, ps, af, some (j, c0)⟩ :: rest) ⟨n, T, H⟩ K := .no_uD hj hb h
theorem wW {dst : Option Nat} {j dj : Nat} {b c : Bool} (h : Ops P fl all rest ((⟨n, T, H⟩ : St).put dst undef) K) (hj : (all[j]?).bind (·.dst) = some dj := by exact rfl) (hb : T dj = .bool b := by exact rfl) (hne : b = !c := by exact rfl) : Ops P fl all (⟨dst, op, ty, ps, af, some (j, c)⟩ :: rest) ⟨n, T, H⟩ K := .no hj hb hne h
theorem wX {dst : Option Nat} {j dj : Nat} {c : Bool} (h : Ops P fl all rest ((⟨n, T, H⟩ : St).put dst undef) K) (hj : (all[j]?).bind (·.dst) = some dj := by exact rfl) (hb : T dj = undef := by exact rfl) : Ops P fl all (⟨dst, op, ty, ps, af, some (j, c)⟩ :: rest) ⟨n, T, H⟩ K := .no_u hj hb h
end

end Go.Proofs.Ytefmjpbmdoebaaa

/- The laws' own small functions on lists of numbers: what they compute. -/
set_option linter.unusedVariables false
namespace Go.Proofs.Ytefmjpbmdoebaaa
open Go Go.RowKit

theorem take_snoc {α : Type} {l : List α} {i : Nat} {a : α} (h : l[i]? = some a) : l.take (i + 1) = l.take i ++ [a] := by
  rw [List.take_add_one, h]; rfl
theorem take_end {α : Type} {l : List α} {i : Nat} (h : l.length ≤ i) : l.take i = l := List.take_of_length_le h

theorem has_ok {H : Hp} {v : Value} {l : List Int} {x : Int} (h : Sl cI H v l) : acall Try.prog 18 [v, .int .i64 x] H (.bool (decide (x ∈ l))) H := by
  have hmx := h.max
  simp only [maxLen] at hmx
  refine CallK.eq (CallK.enter Try.func18 rfl rfl Try.ntmps18 Try.results18 rfl ?_)
  repeat' (first|refine wA ?_|refine wB ?_|refine wH ?_|refine wI ?_|refine wJ ?_|refine wC ?_|refine wD ?_|refine wE ?_|refine wF ?_|refine wG ?_|refine wK ?_|refine wL ?_|refine wM ?_|refine wN ?_|refine wO ?_|refine wP ?_|refine wQ ?_|refine wR ?_|refine wS ?_|refine wT ?_|refine wU ?_|refine wV ?_|refine wW ?_|refine wX ?_)
  refine Run.loopW (fun i => l.length - i) (fun (i : Nat) => up (up (up jk 0 v) 1 (.int .i64 x)) 5 (.int .i64 (i : Int))) (fun _ => H) (fun i => i ≤ l.length ∧ x ∉ l.take i) 0 rfl (by repeat (first | exact Wk.jk | refine Wk.up rfl ?_)) ⟨by omega, by simp⟩ ?_
  rintro i ⟨hi, hx⟩
  repeat' (first|refine wA ?_|refine wB ?_|refine wH ?_|refine wI ?_|refine wJ ?_|refine wC ?_|refine wD ?_|refine wE ?_|refine wF ?_|refine wG ?_|refine wK ?_|refine wL ?_|refine wM ?_|refine wN ?_|refine wO ?_|refine wP ?_|refine wQ ?_|refine wR ?_|refine wS ?_|refine wT ?_|refine wU ?_|refine wV ?_|refine wW ?_|refine wX ?_)
  refine Ops.cmp rfl rfl rfl (fun hc => ?_) (fun hc => ?_)
  · repeat' (first|refine wA ?_|refine wB ?_|refine wH ?_|refine wI ?_|refine wJ ?_|refine wC ?_|refine wD ?_|refine wE ?_|refine wF ?_|refine wG ?_|refine wK ?_|refine wL ?_|refine wM ?_|refine wN ?_|refine wO ?_|refine wP ?_|refine wQ ?_|refine wR ?_|refine wS ?_|refine wT ?_|refine wU ?_|refine wV ?_|refine wW ?_|refine wX ?_)
    refine Ops.idxI h rfl (by omega) (by omega) (by kernel_rfl) (by kernel_rfl) fun pz a ha => ?_
    repeat' (first|refine wA ?_|refine wB ?_|refine wH ?_|refine wI ?_|refine wJ ?_|refine wC ?_|refine wD ?_|refine wE ?_|refine wF ?_|refine wG ?_|refine wK ?_|refine wL ?_|refine wM ?_|refine wN ?_|refine wO ?_|refine wP ?_|refine wQ ?_|refine wR ?_|refine wS ?_|refine wT ?_|refine wU ?_|refine wV ?_|refine wW ?_|refine wX ?_)
    have ha' : l[i]? = some a := ha
    refine Ops.cmp rfl rfl rfl (fun hc => ?_) (fun hc => ?_)
    · repeat' (first|refine wA ?_|refine wB ?_|refine wH ?_|refine wI ?_|refine wJ ?_|refine wC ?_|refine wD ?_|refine wE ?_|refine wF ?_|refine wG ?_|refine wK ?_|refine wL ?_|refine wM ?_|refine wN ?_|refine wO ?_|refine wP ?_|refine wQ ?_|refine wR ?_|refine wS ?_|refine wT ?_|refine wU ?_|refine wV ?_|refine wW ?_|refine wX ?_)
      refine Run.ret ⟨.inl rfl, ResK.tmp rfl (by conv => lhs; whnf) (ResK.nil ?_)⟩
      refine ⟨?_, rfl⟩
      have : x ∈ l := by rw [← hc]; exact List.mem_of_getElem? ha'
      simp [this, resVal]
    · repeat' (first|refine wA ?_|refine wB ?_|refine wH ?_|refine wI ?_|refine wJ ?_|refine wC ?_|refine wD ?_|refine wE ?_|refine wF ?_|refine wG ?_|refine wK ?_|refine wL ?_|refine wM ?_|refine wN ?_|refine wO ?_|refine wP ?_|refine wQ ?_|refine wR ?_|refine wS ?_|refine wT ?_|refine wU ?_|refine wV ?_|refine wW ?_|refine wX ?_)
      refine ⟨i + 1, by dsimp only; omega, rfl, rfl, by dsimp only; exact (by repeat (first | exact Wk.jk | refine Wk.up rfl ?_)), ?_⟩
      refine ⟨by omega, ?_⟩
      rw [take_snoc ha']
      simp only [List.mem_append, List.mem_singleton, not_or]
      exact ⟨hx, fun e => hc e.symm⟩
  · repeat' (first|refine wA ?_|refine wB ?_|refine wH ?_|refine wI ?_|refine wJ ?_|refine wC ?_|refine wD ?_|refine wE ?_|refine wF ?_|refine wG ?_|refine wK ?_|refine wL ?_|refine wM ?_|refine wN ?_|refine wO ?_|refine wP ?_|refine wQ ?_|refine wR ?_|refine wS ?_|refine wT ?_|refine wU ?_|refine wV ?_|refine wW ?_|refine wX ?_)
    refine Run.ret ⟨.inl rfl, ResK.tmp rfl (by conv => lhs; whnf) (ResK.nil ?_)⟩
    rw [take_end (by omega)] at hx
    exact ⟨by simp [hx, resVal], rfl⟩

theorem list_eq_of {α : Type} {l m : List α} (hl : l.length = m.length) (h : l.take l.length = m.take l.length) : l = m := by
  rw [List.take_length, hl, List.take_length] at h; exact h

theorem eqIntS_ok {H : Hp} {v w : Value} {l m : List Int} (h1 : Sl cI H v l) (h2 : Sl cI H w m) : acall Try.prog 27 [v, w] H (.bool (decide (l = m))) H := by
  have hm1 := h1.max
  have hm2 := h2.max
  simp only [maxLen] at hm1 hm2
  refine CallK.eq (CallK.enter Try.func27 rfl rfl Try.ntmps27 Try.results27 rfl ?_)
  repeat' (first|refine wA ?_|refine wB ?_|refine wH ?_|refine wI ?_|refine wJ ?_|refine wC ?_|refine wD ?_|refine wE ?_|refine wF ?_|refine wG ?_|refine wK ?_|refine wL ?_|refine wM ?_|refine wN ?_|refine wO ?_|refine wP ?_|refine wQ ?_|refine wR ?_|refine wS ?_|refine wT ?_|refine wU ?_|refine wV ?_|refine wW ?_|refine wX ?_)
  refine Ops.cmpn rfl rfl (fun hc => ?_) (fun hc => ?_)
  · repeat' (first|refine wA ?_|refine wB ?_|refine wH ?_|refine wI ?_|refine wJ ?_|refine wC ?_|refine wD ?_|refine wE ?_|refine wF ?_|refine wG ?_|refine wK ?_|refine wL ?_|refine wM ?_|refine wN ?_|refine wO ?_|refine wP ?_|refine wQ ?_|refine wR ?_|refine wS ?_|refine wT ?_|refine wU ?_|refine wV ?_|refine wW ?_|refine wX ?_)
    refine Run.ret ⟨.inl rfl, ResK.tmp rfl (by conv => lhs; whnf) (ResK.nil ?_)⟩
    refine ⟨?_, rfl⟩
    have : l ≠ m := fun e => hc (by rw [e])
    simp [this, resVal]
  · repeat' (first|refine wA ?_|refine wB ?_|refine wH ?_|refine wI ?_|refine wJ ?_|refine wC ?_|refine wD ?_|refine wE ?_|refine wF ?_|refine wG ?_|refine wK ?_|refine wL ?_|refine wM ?_|refine wN ?_|refine wO ?_|refine wP ?_|refine wQ ?_|refine wR ?_|refine wS ?_|refine wT ?_|refine wU ?_|refine wV ?_|refine wW ?_|refine wX ?_)
    refine Run.loopW (fun i => l.length - i) (fun (i : Nat) => up (up (up jk 0 v) 1 w) 5 (.int .i64 (i : Int))) (fun _ => H) (fun i => i ≤ l.length ∧ l.take i = m.take i) 0 rfl (by repeat (first | exact Wk.jk | refine Wk.up rfl ?_)) ⟨by omega, by simp⟩ ?_
    rintro i ⟨hi, hx⟩
    repeat' (first|refine wA ?_|refine wB ?_|refine wH ?_|refine wI ?_|refine wJ ?_|refine wC ?_|refine wD ?_|refine wE ?_|refine wF ?_|refine wG ?_|refine wK ?_|refine wL ?_|refine wM ?_|refine wN ?_|refine wO ?_|refine wP ?_|refine wQ ?_|refine wR ?_|refine wS ?_|refine wT ?_|refine wU ?_|refine wV ?_|refine wW ?_|refine wX ?_)
    refine Ops.cmp rfl rfl rfl (fun hc => ?_) (fun hc => ?_)
    · repeat' (first|refine wA ?_|refine wB ?_|refine wH ?_|refine wI ?_|refine wJ ?_|refine wC ?_|refine wD ?_|refine wE ?_|refine wF ?_|refine wG ?_|refine wK ?_|refine wL ?_|refine wM ?_|refine wN ?_|refine wO ?_|refine wP ?_|refine wQ ?_|refine wR ?_|refine wS ?_|refine wT ?_|refine wU ?_|refine wV ?_|refine wW ?_|refine wX ?_)
      refine Run.draw (List.range 9) Try.checked.mixed (by kernel_rfl) ?_
      repeat' (first|refine wA ?_|refine wB ?_|refine wH ?_|refine wI ?_|refine wJ ?_|refine wC ?_|refine wD ?_|refine wE ?_|refine wF ?_|refine wG ?_|refine wK ?_|refine wL ?_|refine wM ?_|refine wN ?_|refine wO ?_|refine wP ?_|refine wQ ?_|refine wR ?_|refine wS ?_|refine wT ?_|refine wU ?_|refine wV ?_|refine wW ?_|refine wX ?_)
      refine Ops.idxI h1 rfl (by omega) (by omega) (by kernel_rfl) (by kernel_rfl) fun pz a ha => ?_
      repeat' (first|refine wA ?_|refine wB ?_|refine wH ?_|refine wI ?_|refine wJ ?_|refine wC ?_|refine wD ?_|refine wE ?_|refine wF ?_|refine wG ?_|refine wK ?_|refine wL ?_|refine wM ?_|refine wN ?_|refine wO ?_|refine wP ?_|refine wQ ?_|refine wR ?_|refine wS ?_|refine wT ?_|refine wU ?_|refine wV ?_|refine wW ?_|refine wX ?_)
      refine Ops.idxI h2 rfl (by omega) (by omega) (by kernel_rfl) (by kernel_rfl) fun p' b hb => ?_
      have ha' : l[i]? = some a := ha
      have hb' : m[i]? = some b := hb
      refine Ops.cmpn rfl rfl (fun hc2 => ?_) (fun hc2 => ?_)
      · repeat' (first|refine wA ?_|refine wB ?_|refine wH ?_|refine wI ?_|refine wJ ?_|refine wC ?_|refine wD ?_|refine wE ?_|refine wF ?_|refine wG ?_|refine wK ?_|refine wL ?_|refine wM ?_|refine wN ?_|refine wO ?_|refine wP ?_|refine wQ ?_|refine wR ?_|refine wS ?_|refine wT ?_|refine wU ?_|refine wV ?_|refine wW ?_|refine wX ?_)
        refine Run.ret ⟨.inl rfl, ResK.tmp rfl (by conv => lhs; whnf) (ResK.nil ?_)⟩
        refine ⟨?_, rfl⟩
        have : l ≠ m := fun e => by
          subst e; rw [ha'] at hb'; injection hb' with hb'; exact hc2 hb'
        simp [this, resVal]
      · repeat' (first|refine wA ?_|refine wB ?_|refine wH ?_|refine wI ?_|refine wJ ?_|refine wC ?_|refine wD ?_|refine wE ?_|refine wF ?_|refine wG ?_|refine wK ?_|refine wL ?_|refine wM ?_|refine wN ?_|refine wO ?_|refine wP ?_|refine wQ ?_|refine wR ?_|refine wS ?_|refine wT ?_|refine wU ?_|refine wV ?_|refine wW ?_|refine wX ?_)
        refine ⟨i + 1, by dsimp only; omega, rfl, rfl, by dsimp only; exact (by repeat (first | exact Wk.jk | refine Wk.up rfl ?_)), ?_⟩
        exact ⟨by omega, by rw [take_snoc ha', take_snoc hb', hx, hc2]⟩
    · repeat' (first|refine wA ?_|refine wB ?_|refine wH ?_|refine wI ?_|refine wJ ?_|refine wC ?_|refine wD ?_|refine wE ?_|refine wF ?_|refine wG ?_|refine wK ?_|refine wL ?_|refine wM ?_|refine wN ?_|refine wO ?_|refine wP ?_|refine wQ ?_|refine wR ?_|refine wS ?_|refine wT ?_|refine wU ?_|refine wV ?_|refine wW ?_|refine wX ?_)
      refine Run.ret ⟨.inl rfl, ResK.tmp rfl (by conv => lhs; whnf) (ResK.nil ?_)⟩
      have : i = l.length := by omega
      subst this
      exact ⟨by simp [list_eq_of (by omega) hx, resVal], rfl⟩

theorem eqIntSS_ok {H : Hp} {v w : Value} {l m : List (List Int)} (h1 : Sl (cL cI) H v l) (h2 : Sl (cL cI) H w m) : acall Try.prog 21 [v, w] H (.bool (decide (l = m))) H := by
  have hm1 := h1.max
  have hm2 := h2.max
  simp only [maxLen] at hm1 hm2
  refine CallK.eq (CallK.enter Try.func21 rfl rfl Try.ntmps21 Try.results21 rfl ?_)
  repeat' (first|refine wA ?_|refine wB ?_|refine wH ?_|refine wI ?_|refine wJ ?_|refine wC ?_|refine wD ?_|refine wE ?_|refine wF ?_|refine wG ?_|refine wK ?_|refine wL ?_|refine wM ?_|refine wN ?_|refine wO ?_|refine wP ?_|refine wQ ?_|refine wR ?_|refine wS ?_|refine wT ?_|refine wU ?_|refine wV ?_|refine wW ?_|refine wX ?_)
  refine Ops.cmpn rfl rfl (fun hc => ?_) (fun hc => ?_)
  · repeat' (first|refine wA ?_|refine wB ?_|refine wH ?_|refine wI ?_|refine wJ ?_|refine wC ?_|refine wD ?_|refine wE ?_|refine wF ?_|refine wG ?_|refine wK ?_|refine wL ?_|refine wM ?_|refine wN ?_|refine wO ?_|refine wP ?_|refine wQ ?_|refine wR ?_|refine wS ?_|refine wT ?_|refine wU ?_|refine wV ?_|refine wW ?_|refine wX ?_)
    refine Run.ret ⟨.inl rfl, ResK.tmp rfl (by conv => lhs; whnf) (ResK.nil ?_)⟩
    refine ⟨?_, rfl⟩
    have : l ≠ m := fun e => hc (by rw [e])
    simp [this, resVal]
  · repeat' (first|refine wA ?_|refine wB ?_|refine wH ?_|refine wI ?_|refine wJ ?_|refine wC ?_|refine wD ?_|refine wE ?_|refine wF ?_|refine wG ?_|refine wK ?_|refine wL ?_|refine wM ?_|refine wN ?_|refine wO ?_|refine wP ?_|refine wQ ?_|refine wR ?_|refine wS ?_|refine wT ?_|refine wU ?_|refine wV ?_|refine wW ?_|refine wX ?_)
    refine Run.loopW (fun i => l.length - i) (fun (i : Nat) => up (up (up jk 0 v) 1 w) 5 (.int .i64 (i : Int))) (fun _ => H) (fun i => i ≤ l.length ∧ l.take i = m.take i) 0 rfl (by repeat (first | exact Wk.jk | refine Wk.up rfl ?_)) ⟨by omega, by simp⟩ ?_
    rintro i ⟨hi, hx⟩
    repeat' (first|refine wA ?_|refine wB ?_|refine wH ?_|refine wI ?_|refine wJ ?_|refine wC ?_|refine wD ?_|refine wE ?_|refine wF ?_|refine wG ?_|refine wK ?_|refine wL ?_|refine wM ?_|refine wN ?_|refine wO ?_|refine wP ?_|refine wQ ?_|refine wR ?_|refine wS ?_|refine wT ?_|refine wU ?_|refine wV ?_|refine wW ?_|refine wX ?_)
    refine Ops.cmp rfl rfl rfl (fun hc => ?_) (fun hc => ?_)
    · repeat' (first|refine wA ?_|refine wB ?_|refine wH ?_|refine wI ?_|refine wJ ?_|refine wC ?_|refine wD ?_|refine wE ?_|refine wF ?_|refine wG ?_|refine wK ?_|refine wL ?_|refine wM ?_|refine wN ?_|refine wO ?_|refine wP ?_|refine wQ ?_|refine wR ?_|refine wS ?_|refine wT ?_|refine wU ?_|refine wV ?_|refine wW ?_|refine wX ?_)
      refine Run.draw (List.range 10) Try.checked.mixed (by kernel_rfl) ?_
      repeat' (first|refine wA ?_|refine wB ?_|refine wH ?_|refine wI ?_|refine wJ ?_|refine wC ?_|refine wD ?_|refine wE ?_|refine wF ?_|refine wG ?_|refine wK ?_|refine wL ?_|refine wM ?_|refine wN ?_|refine wO ?_|refine wP ?_|refine wQ ?_|refine wR ?_|refine wS ?_|refine wT ?_|refine wU ?_|refine wV ?_|refine wW ?_|refine wX ?_)
      refine Ops.idx h1 rfl rfl (by omega) (by omega) (by kernel_rfl) (by kernel_rfl) fun pz u a ha hu => ?_
      repeat' (first|refine wA ?_|refine wB ?_|refine wH ?_|refine wI ?_|refine wJ ?_|refine wC ?_|refine wD ?_|refine wE ?_|refine wF ?_|refine wG ?_|refine wK ?_|refine wL ?_|refine wM ?_|refine wN ?_|refine wO ?_|refine wP ?_|refine wQ ?_|refine wR ?_|refine wS ?_|refine wT ?_|refine wU ?_|refine wV ?_|refine wW ?_|refine wX ?_)
      refine Ops.idx h2 rfl rfl (by omega) (by omega) (by kernel_rfl) (by kernel_rfl) fun p' u' b hb hu' => ?_
      have ha' : l[i]? = some a := ha
      have hb' : m[i]? = some b := hb
      refine Ops.callB (eqIntS_ok (cL_at hu) (cL_at hu')) (fun hc2 => ?_) (fun hc2 => ?_)
      · repeat' (first|refine wA ?_|refine wB ?_|refine wH ?_|refine wI ?_|refine wJ ?_|refine wC ?_|refine wD ?_|refine wE ?_|refine wF ?_|refine wG ?_|refine wK ?_|refine wL ?_|refine wM ?_|refine wN ?_|refine wO ?_|refine wP ?_|refine wQ ?_|refine wR ?_|refine wS ?_|refine wT ?_|refine wU ?_|refine wV ?_|refine wW ?_|refine wX ?_)
        refine ⟨i + 1, by dsimp only; omega, rfl, rfl, by dsimp only; exact (by repeat (first | exact Wk.jk | refine Wk.up rfl ?_)), ?_⟩
        exact ⟨by omega, by rw [take_snoc ha', take_snoc hb', hx, of_decide_eq_true hc2]⟩
      · repeat' (first|refine wA ?_|refine wB ?_|refine wH ?_|refine wI ?_|refine wJ ?_|refine wC ?_|refine wD ?_|refine wE ?_|refine wF ?_|refine wG ?_|refine wK ?_|refine wL ?_|refine wM ?_|refine wN ?_|refine wO ?_|refine wP ?_|refine wQ ?_|refine wR ?_|refine wS ?_|refine wT ?_|refine wU ?_|refine wV ?_|refine wW ?_|refine wX ?_)
        refine Run.ret ⟨.inl rfl, ResK.tmp rfl (by conv => lhs; whnf) (ResK.nil ?_)⟩
        refine ⟨?_, rfl⟩
        have : l ≠ m := fun e => by
          subst e; rw [ha'] at hb'; injection hb' with hb'; exact of_decide_eq_false hc2 hb'
        simp [this, resVal]
    · repeat' (first|refine wA ?_|refine wB ?_|refine wH ?_|refine wI ?_|refine wJ ?_|refine wC ?_|refine wD ?_|refine wE ?_|refine wF ?_|refine wG ?_|refine wK ?_|refine wL ?_|refine wM ?_|refine wN ?_|refine wO ?_|refine wP ?_|refine wQ ?_|refine wR ?_|refine wS ?_|refine wT ?_|refine wU ?_|refine wV ?_|refine wW ?_|refine wX ?_)
      refine Run.ret ⟨.inl rfl, ResK.tmp rfl (by conv => lhs; whnf) (ResK.nil ?_)⟩
      have : i = l.length := by omega
      subst this
      exact ⟨by simp [list_eq_of (by omega) hx, resVal], rfl⟩

/-- n numbers from k on. -/
def marks (k : Int) (n : Nat) : List Int := (List.range n).map fun (i : Nat) => k + (i : Int)
theorem marks_length (k : Int) (n : Nat) : (marks k n).length = n := by simp [marks]
theorem marks_get {k : Int} {n i : Nat} (h : i < n) : (marks k n)[i]? = some (k + i) := by simp [marks, h]

theorem heldIntS_ok {H : Hp} {v : Value} {k : Int} {n : Nat} (h : Sl cI H v (marks k n)) (h0 : 0 ≤ k) (hn : k + n ≤ 4611686018427387904) : acall Try.prog 29 [v, .int .i64 k] H (.int .i64 (k + n)) H := by
  have hl := marks_length k n
  refine CallK.eq (CallK.enter Try.func29 rfl rfl Try.ntmps29 Try.results29 rfl ?_)
  repeat' (first|refine wA ?_|refine wB ?_|refine wH ?_|refine wI ?_|refine wJ ?_|refine wC ?_|refine wD ?_|refine wE ?_|refine wF ?_|refine wG ?_|refine wK ?_|refine wL ?_|refine wM ?_|refine wN ?_|refine wO ?_|refine wP ?_|refine wQ ?_|refine wR ?_|refine wS ?_|refine wT ?_|refine wU ?_|refine wV ?_|refine wW ?_|refine wX ?_)
  refine Run.loopW (fun i => n - i) (fun (i : Nat) => up (up (up jk 0 v) 1 (.int .i64 (k + i))) 5 (.int .i64 (i : Int))) (fun _ => H) (fun i => i ≤ n) 0 rfl (by rw [show k + ((0 : Nat) : Int) = k by omega]; exact (by repeat (first | exact Wk.jk | refine Wk.up rfl ?_))) (by omega) ?_
  rintro i hi
  repeat' (first|refine wA ?_|refine wB ?_|refine wH ?_|refine wI ?_|refine wJ ?_|refine wC ?_|refine wD ?_|refine wE ?_|refine wF ?_|refine wG ?_|refine wK ?_|refine wL ?_|refine wM ?_|refine wN ?_|refine wO ?_|refine wP ?_|refine wQ ?_|refine wR ?_|refine wS ?_|refine wT ?_|refine wU ?_|refine wV ?_|refine wW ?_|refine wX ?_)
  refine Ops.cmp rfl rfl rfl (fun hc => ?_) (fun hc => ?_)
  · repeat' (first|refine wA ?_|refine wB ?_|refine wH ?_|refine wI ?_|refine wJ ?_|refine wC ?_|refine wD ?_|refine wE ?_|refine wF ?_|refine wG ?_|refine wK ?_|refine wL ?_|refine wM ?_|refine wN ?_|refine wO ?_|refine wP ?_|refine wQ ?_|refine wR ?_|refine wS ?_|refine wT ?_|refine wU ?_|refine wV ?_|refine wW ?_|refine wX ?_)
    refine Ops.idxI h rfl (by omega) (by omega) (by kernel_rfl) (by kernel_rfl) fun pz a ha => ?_
    have ha' : (marks k n)[i]? = some a := ha
    rw [marks_get (by omega)] at ha'
    injection ha' with ha'
    subst ha'
    repeat' (first|refine wA ?_|refine wB ?_|refine wH ?_|refine wI ?_|refine wJ ?_|refine wC ?_|refine wD ?_|refine wE ?_|refine wF ?_|refine wG ?_|refine wK ?_|refine wL ?_|refine wM ?_|refine wN ?_|refine wO ?_|refine wP ?_|refine wQ ?_|refine wR ?_|refine wS ?_|refine wT ?_|refine wU ?_|refine wV ?_|refine wW ?_|refine wX ?_)
    refine Ops.cmpn rfl rfl (fun hc => ?_) (fun hc => ?_)
    · contradiction
    · repeat' (first|refine wA ?_|refine wB ?_|refine wH ?_|refine wI ?_|refine wJ ?_|refine wC ?_|refine wD ?_|refine wE ?_|refine wF ?_|refine wG ?_|refine wK ?_|refine wL ?_|refine wM ?_|refine wN ?_|refine wO ?_|refine wP ?_|refine wQ ?_|refine wR ?_|refine wS ?_|refine wT ?_|refine wU ?_|refine wV ?_|refine wW ?_|refine wX ?_)
      refine ⟨i + 1, by dsimp only; omega, rfl, rfl, by dsimp only; rw [show k + ((i + 1 : Nat) : Int) = k + i + 1 by omega]; exact (by repeat (first | exact Wk.jk | refine Wk.up rfl ?_)), by omega⟩
  · repeat' (first|refine wA ?_|refine wB ?_|refine wH ?_|refine wI ?_|refine wJ ?_|refine wC ?_|refine wD ?_|refine wE ?_|refine wF ?_|refine wG ?_|refine wK ?_|refine wL ?_|refine wM ?_|refine wN ?_|refine wO ?_|refine wP ?_|refine wQ ?_|refine wR ?_|refine wS ?_|refine wT ?_|refine wU ?_|refine wV ?_|refine wW ?_|refine wX ?_)
    refine Run.ret ⟨.inl rfl, ResK.tmp rfl (by conv => lhs; whnf) (ResK.nil ?_)⟩
    have : i = n := by omega
    subst this
    exact ⟨rfl, rfl⟩

theorem set_take {α : Type} {l : List α} {i : Nat} {a : α} (hi : i < l.length) : (l.set i a).take (i + 1) = l.take i ++ [a] := by
  rw [take_snoc (a := a) (by rw [List.getElem?_set_self hi]), List.take_set_of_le (Nat.le_refl _)]

/-- A slice that may be written, if there is anything to write. -/
def SA {α : Type} (c : Cd α) (e k : Nat) (H : Hp) (v : Value) (l : List α) : Prop := Sl c H v l ∧ (l ≠ [] → Ac c e k H v l)

theorem markIntS_ok {H : Hp} {v : Value} {k : Int} {l : List Int} {q : Nat} (h : SA cI 3 q H v l) (h0 : 0 ≤ k) (hn : k + l.length ≤ 4611686018427387904) :
    CallK Try.prog 28 [v, .int .i64 k] H (fun r H' => r = .int .i64 (k + l.length) ∧ SA cI 3 q H' v (marks k l.length) ∧ ((l = [] ∧ H' = H) ∨ (l ≠ [] ∧ ∃ r, q ≤ r ∧ Rt H v r ∧ Mod r H H'))) := by
  have hmx := h.1.max
  simp only [maxLen] at hmx
  refine (CallK.enter Try.func28 rfl rfl Try.ntmps28 Try.results28 rfl ?_)
  repeat' (first|refine wA ?_|refine wB ?_|refine wH ?_|refine wI ?_|refine wJ ?_|refine wC ?_|refine wD ?_|refine wE ?_|refine wF ?_|refine wG ?_|refine wK ?_|refine wL ?_|refine wM ?_|refine wN ?_|refine wO ?_|refine wP ?_|refine wQ ?_|refine wR ?_|refine wS ?_|refine wT ?_|refine wU ?_|refine wV ?_|refine wW ?_|refine wX ?_)
  refine Run.loopW (fun (a : Nat × Hp × List Int) => l.length - a.1) (fun a => up (up (up jk 0 v) 1 (.int .i64 (k + a.1))) 5 (.int .i64 (a.1 : Int))) (fun a => a.2.1) (fun a => a.1 ≤ l.length ∧ SA cI 3 q a.2.1 v a.2.2 ∧ a.2.2.length = l.length ∧ a.2.2.take a.1 = marks k a.1 ∧ ((a.1 = 0 ∧ a.2.1 = H) ∨ (l ≠ [] ∧ ∃ r, q ≤ r ∧ Rt H v r ∧ Mod r H a.2.1))) (0, H, l) rfl
    (by dsimp only; rw [show k + ((0 : Nat) : Int) = k by omega]; exact (by repeat (first | exact Wk.jk | refine Wk.up rfl ?_))) ⟨by dsimp only; omega, h, rfl, by simp [marks], .inl ⟨rfl, rfl⟩⟩ ?_
  rintro ⟨i, H1, m⟩ ⟨hi, hac, hl, hm, hmod⟩
  dsimp only at hi hac hl hm hmod
  dsimp only
  have hsl := hac.1
  repeat' (first|refine wA ?_|refine wB ?_|refine wH ?_|refine wI ?_|refine wJ ?_|refine wC ?_|refine wD ?_|refine wE ?_|refine wF ?_|refine wG ?_|refine wK ?_|refine wL ?_|refine wM ?_|refine wN ?_|refine wO ?_|refine wP ?_|refine wQ ?_|refine wR ?_|refine wS ?_|refine wT ?_|refine wU ?_|refine wV ?_|refine wW ?_|refine wX ?_)
  refine Ops.cmp rfl rfl rfl (fun hc => ?_) (fun hc => ?_)
  · repeat' (first|refine wA ?_|refine wB ?_|refine wH ?_|refine wI ?_|refine wJ ?_|refine wC ?_|refine wD ?_|refine wE ?_|refine wF ?_|refine wG ?_|refine wK ?_|refine wL ?_|refine wM ?_|refine wN ?_|refine wO ?_|refine wP ?_|refine wQ ?_|refine wR ?_|refine wS ?_|refine wT ?_|refine wU ?_|refine wV ?_|refine wW ?_|refine wX ?_)
    have hne : m ≠ [] := fun e => by have h5 : m.length = 0 := (by rw [e]; rfl); omega
    obtain ⟨r, hqr, hr⟩ := (hac.2 hne).rt hne
    refine Ops.set (r := r) (a := k + i) (hac.2 hne) hr rfl (by omega) (by omega) rfl (by simp) (by kernel_rfl) (by kernel_rfl) (fun _ _ _ _ _ h => h) fun p H2 hm2 hac2 => ?_
    repeat' (first|refine wA ?_|refine wB ?_|refine wH ?_|refine wI ?_|refine wJ ?_|refine wC ?_|refine wD ?_|refine wE ?_|refine wF ?_|refine wG ?_|refine wK ?_|refine wL ?_|refine wM ?_|refine wN ?_|refine wO ?_|refine wP ?_|refine wQ ?_|refine wR ?_|refine wS ?_|refine wT ?_|refine wU ?_|refine wV ?_|refine wW ?_|refine wX ?_)
    refine ⟨(i + 1, H2, m.set i (k + i)), by dsimp only; omega, rfl, rfl, by dsimp only; rw [show k + ((i + 1 : Nat) : Int) = k + i + 1 by omega]; exact (by repeat (first | exact Wk.jk | refine Wk.up rfl ?_)), ?_⟩
    refine ⟨by dsimp only; omega, ⟨hac2.sl, fun _ => hac2⟩, by simp [hl], ?_, .inr ⟨fun e => by have h5 : l.length = 0 := (by rw [e]; rfl); omega, ?_⟩⟩
    · show (m.set i (k + i)).take (i + 1) = _
      rw [set_take (by omega), hm]; simp [marks, List.range_succ]
    · rcases hmod with ⟨_, h1⟩ | ⟨_, r0, h1, h2, h3⟩
      · dsimp only at *
        subst h1; exact ⟨r, hqr, hr, hm2⟩
      · have : r = r0 := by
          obtain ⟨id, g1, g2, g3, g4⟩ := hr
          obtain ⟨id', k1, k2, k3, k4⟩ := h2
          rw [k1] at g1; injection g1 with g1; subst g1
          rw [← g4, (h3.own id' k2).2, k4]
        subst this
        exact ⟨r, h1, h2, h3.trans hm2⟩
  · repeat' (first|refine wA ?_|refine wB ?_|refine wH ?_|refine wI ?_|refine wJ ?_|refine wC ?_|refine wD ?_|refine wE ?_|refine wF ?_|refine wG ?_|refine wK ?_|refine wL ?_|refine wM ?_|refine wN ?_|refine wO ?_|refine wP ?_|refine wQ ?_|refine wR ?_|refine wS ?_|refine wT ?_|refine wU ?_|refine wV ?_|refine wW ?_|refine wX ?_)
    refine Run.ret ⟨.inl rfl, ResK.tmp rfl (by conv => lhs; whnf) (ResK.nil ?_)⟩
    have hil : i = l.length := by omega
    subst hil
    rw [take_end (by omega)] at hm
    subst hm
    refine ⟨rfl, hac, ?_⟩
    rcases hmod with ⟨h1, h2⟩ | h1
    · exact .inl ⟨List.length_eq_zero_iff.1 h1, h2⟩
    · exact .inr h1

/-- The same, by the rows that are owned. -/
theorem markIntS_rw {H : Hp} {v : Value} {k : Int} {l : List Int} {q : Nat} {F : List Nat} (h : Rw cI 3 H v l F) (ho : Own q H F) (h0 : 0 ≤ k) (hn : k + l.length ≤ 4611686018427387904) :
    CallK Try.prog 28 [v, .int .i64 k] H (fun r H' => r = .int .i64 (k + l.length) ∧ Rw cI 3 H' v (marks k l.length) F ∧ ModS F H H') := by
  refine (markIntS_ok (q := q) ⟨h.1, fun hl => h.ac ho hl⟩ h0 hn).mono ?_
  rintro r H' ⟨h1, h2, h3⟩
  refine ⟨h1, ?_⟩
  rcases h.2 with ⟨g1, g2⟩ | ⟨id, ob, g1, g2, g3, g4, g5, g6⟩
  · subst g1 g2
    rcases h3 with ⟨_, rfl⟩ | ⟨h4, _⟩
    · exact ⟨⟨h2.1, .inl ⟨rfl, rfl⟩⟩, ModS.refl⟩
    · exact absurd rfl h4
  · subst g2
    have hne : marks k l.length ≠ [] := fun e => g1 (List.length_eq_zero_iff.1 (by rw [← marks_length k l.length, e]; rfl))
    rcases h3 with ⟨e, _⟩ | ⟨_, r, _, ⟨id', k1, k2, k3, k4⟩, hm⟩
    · exact absurd e g1
    · rw [g3] at k1
      injection k1 with k1
      have k1' : id = id' := k1
      subst k1'
      refine ⟨⟨h2.1, .inr ?_⟩, by rw [← k4] at hm; exact hm.toS⟩
      rcases h2.2 hne with ⟨e, _⟩ | ⟨id2, ob2, e1, e2, e3, e4, e5, e6, e7, e8, e9⟩
      · rw [g3] at e; cases e
      · have e1' := e1
        rw [g3] at e1'
        injection e1' with e1'
        injection e1' with e1'
        injection e1' with e1'
        subst e1'
        exact ⟨id, ob2, hne, rfl, e1, e2, e5, e6, e8⟩

/-- Lists marked one after the other. -/
def markSS : Int → List (List Int × List Nat) → List (List Int × List Nat)
  | _, [] => []
  | k, (l, F) :: t => (marks k l.length, F) :: markSS (k + l.length) t
def total : List (List Int × List Nat) → Nat
  | [] => 0
  | (l, _) :: t => l.length + total t

theorem total_append (a b : List (List Int × List Nat)) : total (a ++ b) = total a + total b := by
  induction a with
  | nil => simp [total]
  | cons x t ih => obtain ⟨l, F⟩ := x; simp only [List.cons_append, total, ih]; omega
theorem markSS_append (k : Int) (a b : List (List Int × List Nat)) : markSS k (a ++ b) = markSS k a ++ markSS (k + total a) b := by
  induction a generalizing k with
  | nil => simp [markSS, total]
  | cons x t ih =>
    obtain ⟨l, F⟩ := x
    simp only [List.cons_append, markSS, total, ih]
    rw [show k + (l.length : Int) + (total t : Int) = k + ((l.length + total t : Nat) : Int) by omega]
theorem markSS_length (k : Int) (a : List (List Int × List Nat)) : (markSS k a).length = a.length := by
  induction a generalizing k with
  | nil => rfl
  | cons x t ih => obtain ⟨l, F⟩ := x; simp [markSS, ih]
theorem markSS_fps (k : Int) (a : List (List Int × List Nat)) : fps (markSS k a) = fps a := by
  induction a generalizing k with
  | nil => rfl
  | cons x t ih => obtain ⟨l, F⟩ := x; simpa [markSS, fps] using ih (k + l.length)
theorem markSS_take (k : Int) (a : List (List Int × List Nat)) (i : Nat) : (markSS k a).take i = markSS k (a.take i) := by
  have h := congrArg (List.take i) (markSS_append k (a.take i) (a.drop i))
  rw [List.take_append_drop] at h
  rw [h]
  rcases Nat.le_total i a.length with hi | hi
  · rw [List.take_left' (by rw [markSS_length, List.length_take]; omega)]
  · rw [List.drop_of_length_le hi]
    simp only [markSS, List.append_nil]
    rw [List.take_of_length_le (by rw [markSS_length, List.length_take]; omega)]
theorem markSS_get {k : Int} {a : List (List Int × List Nat)} {i : Nat} {l : List Int} {F : List Nat} (h : a[i]? = some (l, F)) : (markSS k a)[i]? = some (marks (k + total (a.take i)) l.length, F) := by
  have hi := (List.getElem?_eq_some_iff.1 h).1
  have h1 := markSS_append k (a.take i) (a.drop i)
  rw [List.take_append_drop] at h1
  rw [h1, List.getElem?_append_right (by rw [markSS_length, List.length_take]; omega), markSS_length, List.length_take, Nat.min_eq_left (by omega), Nat.sub_self]
  have h2 : a.drop i = (l, F) :: a.drop (i + 1) := by
    rw [List.drop_eq_getElem_cons hi]
    congr 1
    rw [List.getElem?_eq_getElem hi] at h; injection h
  rw [h2]; rfl

theorem fps_mem {α : Type} {ls : List (α × List Nat)} {i : Nat} {a : α × List Nat} (h : ls[i]? = some a) {f : Nat} (hf : f ∈ a.2) : f ∈ fps ls :=
  List.mem_flatMap.2 ⟨a, List.mem_of_getElem? h, hf⟩

/-- The rows of two elements are different. -/
theorem fps_apart {α : Type} : ∀ {ls : List (α × List Nat)} {i j : Nat} {a b : α × List Nat}, (fps ls).Nodup → ls[i]? = some a → ls[j]? = some b → i ≠ j → ∀ f ∈ a.2, f ∉ b.2
  | [], i, j, a, b, _, h, _, _ => by simp at h
  | x :: t, i, j, a, b, hn, h1, h2, hne => by
    have hn' : (x.2 ++ fps t).Nodup := by simpa [fps] using hn
    rw [List.nodup_append] at hn'
    intro f hf hf'
    cases i with
    | zero =>
      simp at h1; subst h1
      cases j with
      | zero => exact hne rfl
      | succ j => exact hn'.2.2 f hf f (fps_mem (by simpa using h2) hf') rfl
    | succ i =>
      cases j with
      | zero =>
        simp at h2; subst h2
        exact hn'.2.2 f hf' f (fps_mem (by simpa using h1) hf) rfl
      | succ j => exact fps_apart hn'.2.1 (by simpa using h1) (by simpa using h2) (by omega) f hf hf'

theorem markIntSS_ok {H : Hp} {v : Value} {k : Int} {q : Nat} {ls : List (List Int × List Nat)} (h : OL cI 3 q H v ls) (h0 : 0 ≤ k) (hn : k + total ls ≤ 4611686018427387904) :
    CallK Try.prog 22 [v, .int .i64 k] H (fun r H' => r = .int .i64 (k + total ls) ∧ OL cI 3 q H' v (markSS k ls) ∧ ModS (fps ls) H H') := by
  have hmx := h.sl.max
  simp only [maxLen] at hmx
  refine (CallK.enter Try.func22 rfl rfl Try.ntmps22 Try.results22 rfl ?_)
  repeat' (first|refine wA ?_|refine wB ?_|refine wH ?_|refine wI ?_|refine wJ ?_|refine wC ?_|refine wD ?_|refine wE ?_|refine wF ?_|refine wG ?_|refine wK ?_|refine wL ?_|refine wM ?_|refine wN ?_|refine wO ?_|refine wP ?_|refine wQ ?_|refine wR ?_|refine wS ?_|refine wT ?_|refine wU ?_|refine wV ?_|refine wW ?_|refine wX ?_)
  refine Run.loopW (fun (a : Nat × Hp × List (List Int × List Nat)) => ls.length - a.1) (fun a => up (up (up jk 0 v) 1 (.int .i64 (k + total (ls.take a.1)))) 5 (.int .i64 (a.1 : Int))) (fun a => a.2.1)
    (fun a => a.1 ≤ ls.length ∧ Sl (cF cI 3) a.2.1 v a.2.2 ∧ a.2.2 = markSS k (ls.take a.1) ++ ls.drop a.1 ∧ ModS (fps (ls.take a.1)) H a.2.1) (0, H, ls) rfl
    (by dsimp only; rw [show k + (total (ls.take 0) : Int) = k by simp [total]]; exact (by repeat (first | exact Wk.jk | refine Wk.up rfl ?_))) ⟨by dsimp only; omega, h.sl, by simp [markSS], ModS.refl⟩ ?_
  rintro ⟨i, H1, ms⟩ ⟨hi, hsl, hms, hmod⟩
  dsimp only at hi hsl hms hmod
  dsimp only
  have hlen : ms.length = ls.length := by
    rw [hms, List.length_append, markSS_length, List.length_take, List.length_drop]; omega
  repeat' (first|refine wA ?_|refine wB ?_|refine wH ?_|refine wI ?_|refine wJ ?_|refine wC ?_|refine wD ?_|refine wE ?_|refine wF ?_|refine wG ?_|refine wK ?_|refine wL ?_|refine wM ?_|refine wN ?_|refine wO ?_|refine wP ?_|refine wQ ?_|refine wR ?_|refine wS ?_|refine wT ?_|refine wU ?_|refine wV ?_|refine wW ?_|refine wX ?_)
  refine Ops.cmp rfl rfl rfl (fun hc => ?_) (fun hc => ?_)
  · have hil : i < ls.length := by omega
    rcases hx : ls[i] with ⟨l, F⟩
    have hx' : ls[i]? = some (l, F) := by rw [List.getElem?_eq_getElem hil, hx]
    have hdrop : ls.drop i = (l, F) :: ls.drop (i + 1) := by rw [List.drop_eq_getElem_cons hil, hx]
    have htot : total (ls.take i) + l.length ≤ total ls := by
      have := total_append (ls.take i) (ls.drop i)
      rw [List.take_append_drop, hdrop] at this
      simp only [total] at this; omega
    repeat' (first|refine wA ?_|refine wB ?_|refine wH ?_|refine wI ?_|refine wJ ?_|refine wC ?_|refine wD ?_|refine wE ?_|refine wF ?_|refine wG ?_|refine wK ?_|refine wL ?_|refine wM ?_|refine wN ?_|refine wO ?_|refine wP ?_|refine wQ ?_|refine wR ?_|refine wS ?_|refine wT ?_|refine wU ?_|refine wV ?_|refine wW ?_|refine wX ?_)
    refine Ops.idxC hsl rfl rfl (by omega) (by omega) (by kernel_rfl) (by kernel_rfl) fun p u a ha hu hcu => ?_
    have ha' : ms[i]? = some a := ha
    have hmi : ms[i]? = some (l, F) := by
      rw [hms, List.getElem?_append_right (by rw [markSS_length, List.length_take]; omega), markSS_length, List.length_take, Nat.min_eq_left hi, Nat.sub_self, hdrop]; rfl
    rw [hmi] at ha'
    injection ha' with ha'
    subst ha'
    have hfm : fps ms = fps ls := by
      rw [hms, fps_append, markSS_fps, ← fps_append, List.take_append_drop]
    have hFin : ∀ f ∈ F, f ∈ fps ls := fun f hf => fps_mem hx' hf
    have hownF : Own q H F := fun f hf => h.own f (hFin f hf)
    repeat' (first|refine wA ?_|refine wB ?_|refine wH ?_|refine wI ?_|refine wJ ?_|refine wC ?_|refine wD ?_|refine wE ?_|refine wF ?_|refine wG ?_|refine wK ?_|refine wL ?_|refine wM ?_|refine wN ?_|refine wO ?_|refine wP ?_|refine wQ ?_|refine wR ?_|refine wS ?_|refine wT ?_|refine wU ?_|refine wV ?_|refine wW ?_|refine wX ?_)
    refine Ops.call (markIntS_rw (cF_at hu) (hownF.modS hmod) (by omega) (by dsimp only; omega)) (fun _ _ _ hf => by cases hf) fun r H2 => ?_
    rintro ⟨rfl, hrw, hm2⟩
    repeat' (first|refine wA ?_|refine wB ?_|refine wH ?_|refine wI ?_|refine wJ ?_|refine wC ?_|refine wD ?_|refine wE ?_|refine wF ?_|refine wG ?_|refine wK ?_|refine wL ?_|refine wM ?_|refine wN ?_|refine wO ?_|refine wP ?_|refine wQ ?_|refine wR ?_|refine wS ?_|refine wT ?_|refine wU ?_|refine wV ?_|refine wW ?_|refine wX ?_)
    have htk : ls.take (i + 1) = ls.take i ++ [(l, F)] := take_snoc hx'
    have hms2 : ms.set i (marks (k + total (ls.take i)) l.length, F) = markSS k (ls.take (i + 1)) ++ ls.drop (i + 1) := by
      rw [hms, hdrop, htk, markSS_append, List.set_append_right _ _ (by rw [markSS_length, List.length_take]; omega), markSS_length, List.length_take, Nat.min_eq_left hi, Nat.sub_self]
      simp [markSS]
    have htot2 : k + (total (ls.take (i + 1)) : Int) = k + (total (ls.take i) : Int) + (l.length : Int) := by
      rw [htk, total_append]; simp only [total]; omega
    refine ⟨(i + 1, H2, ms.set i (marks (k + total (ls.take i)) l.length, F)), by dsimp only; omega, rfl, rfl, by dsimp only; rw [htot2]; exact (by repeat (first | exact Wk.jk | refine Wk.up rfl ?_)), by dsimp only; omega, ?_, hms2, ?_⟩
    · dsimp only
      refine hsl.reset rfl (by rw [hm2.nxt]; exact Nat.le_refl _) (fun id hid hne => ?_) (by simp) fun j w a b hcw hj hok hb => ?_
      · have hid0 : id < H.nxt := h.sl.live id hid
        refine hm2.get id (hsl.live id hid) fun f hf => ?_
        rw [(hmod.own id hid0).2, (hmod.own f (hownF f hf).1).2]
        exact h.out id hid (fun e => by rw [e] at hil; simp at hil) f (hFin f hf)
      · by_cases e : j = i
        · subst e
          rw [List.getElem?_set_self (by omega)] at hb
          cases hb
          have : w = u := by
            obtain ⟨id1, o1, b1, n1, g1, g2, g3⟩ := hcw
            obtain ⟨id2, o2, b2, n2, k1, k2, k3⟩ := hcu
            have k1' : v = _ := k1
            rw [g1] at k1'; cases k1'
            rw [g2] at k2; cases k2
            have k3' : b1.cs[o1 + j]? = some u := k3
            rw [g3] at k3'; cases k3'; rfl
          subst this
          exact ⟨w, rfl, hrw⟩
        · rw [List.getElem?_set_ne (Ne.symm e)] at hb
          rw [hj] at hb; cases hb
          have hrj := cF_at hok
          exact ⟨w, rfl, Rw.modS (H := H1) (H' := H2) (k := q) (k' := q) (fun _ _ _ h => h) hrj (fun f hf => (h.own.modS hmod) f (by rw [← hfm]; exact fps_mem hj hf)) (hownF.modS hmod) (fps_apart (by rw [hfm]; exact h.nd) hj hmi e) hm2⟩
    · dsimp only
      rw [htk, fps_append, fps_one]
      exact hmod.trans hm2 fun f hf => (hownF f hf).1
  · repeat' (first|refine wA ?_|refine wB ?_|refine wH ?_|refine wI ?_|refine wJ ?_|refine wC ?_|refine wD ?_|refine wE ?_|refine wF ?_|refine wG ?_|refine wK ?_|refine wL ?_|refine wM ?_|refine wN ?_|refine wO ?_|refine wP ?_|refine wQ ?_|refine wR ?_|refine wS ?_|refine wT ?_|refine wU ?_|refine wV ?_|refine wW ?_|refine wX ?_)
    refine Run.ret ⟨.inl rfl, ResK.tmp rfl (by conv => lhs; whnf) (ResK.nil ?_)⟩
    have hil : i = ls.length := by omega
    subst hil
    rw [List.take_length] at hms hmod ⊢
    rw [List.drop_length, List.append_nil] at hms
    subst hms
    refine ⟨rfl, ⟨hsl, ?_, ?_, ?_⟩, hmod⟩
    · rw [markSS_fps]; exact h.own.modS hmod
    · rw [markSS_fps]; exact h.nd
    · intro id hid hne f hf
      rw [markSS_fps] at hf
      rw [(hmod.own id (h.sl.live id hid)).2, (hmod.own f (h.own f hf).1).2]
      exact h.out id hid (fun e => hne (by rw [e]; rfl)) f hf

end Go.Proofs.Ytefmjpbmdoebaaa

/- Small functions: marks held, copies, bounds. -/
set_option linter.unusedVariables false
namespace Go.Proofs.Ytefmjpbmdoebaaa
open Go Go.RowKit

theorem heldIntSS_ok {H : Hp} {v : Value} {k : Int} {ls : List (List Int × List Nat)} (h : Sl (cF cI 3) H v (markSS k ls)) (h0 : 0 ≤ k) (hn : k + total ls ≤ 4611686018427387904) :
    acall Try.prog 23 [v, .int .i64 k] H (.int .i64 (k + total ls)) H := by
  have hmx := h.max
  have hl := markSS_length k ls
  simp only [maxLen] at hmx
  refine CallK.eq (CallK.enter Try.func23 rfl rfl Try.ntmps23 Try.results23 rfl ?_)
  repeat' (first|refine wA ?_|refine wB ?_|refine wH ?_|refine wI ?_|refine wJ ?_|refine wC ?_|refine wD ?_|refine wE ?_|refine wF ?_|refine wG ?_|refine wK ?_|refine wL ?_|refine wM ?_|refine wN ?_|refine wO ?_|refine wP ?_|refine wQ ?_|refine wR ?_|refine wS ?_|refine wT ?_|refine wU ?_|refine wV ?_|refine wW ?_|refine wX ?_)
  refine Run.loopW (fun (i : Nat) => ls.length - i) (fun i => up (up (up jk 0 v) 1 (.int .i64 (k + total (ls.take i)))) 5 (.int .i64 (i : Int))) (fun _ => H) (fun i => i ≤ ls.length) 0 rfl
    (by rw [show k + (total (ls.take 0) : Int) = k by simp [total]]; exact (by repeat (first | exact Wk.jk | refine Wk.up rfl ?_))) (by omega) ?_
  intro i hi
  repeat' (first|refine wA ?_|refine wB ?_|refine wH ?_|refine wI ?_|refine wJ ?_|refine wC ?_|refine wD ?_|refine wE ?_|refine wF ?_|refine wG ?_|refine wK ?_|refine wL ?_|refine wM ?_|refine wN ?_|refine wO ?_|refine wP ?_|refine wQ ?_|refine wR ?_|refine wS ?_|refine wT ?_|refine wU ?_|refine wV ?_|refine wW ?_|refine wX ?_)
  refine Ops.cmp rfl rfl rfl (fun hc => ?_) (fun hc => ?_)
  · have hil : i < ls.length := by omega
    rcases hx : ls[i] with ⟨l, F⟩
    have hx' : ls[i]? = some (l, F) := by rw [List.getElem?_eq_getElem hil, hx]
    have hdrop : ls.drop i = (l, F) :: ls.drop (i + 1) := by rw [List.drop_eq_getElem_cons hil, hx]
    have htot : total (ls.take i) + l.length ≤ total ls := by
      have := total_append (ls.take i) (ls.drop i)
      rw [List.take_append_drop, hdrop] at this
      simp only [total] at this; omega
    repeat' (first|refine wA ?_|refine wB ?_|refine wH ?_|refine wI ?_|refine wJ ?_|refine wC ?_|refine wD ?_|refine wE ?_|refine wF ?_|refine wG ?_|refine wK ?_|refine wL ?_|refine wM ?_|refine wN ?_|refine wO ?_|refine wP ?_|refine wQ ?_|refine wR ?_|refine wS ?_|refine wT ?_|refine wU ?_|refine wV ?_|refine wW ?_|refine wX ?_)
    refine Ops.idx h rfl rfl (by omega) (by omega) (by kernel_rfl) (by kernel_rfl) fun pz u a ha hu => ?_
    have ha' : (markSS k ls)[i]? = some a := ha
    rw [markSS_get hx'] at ha'
    injection ha' with ha'
    subst ha'
    repeat' (first|refine wA ?_|refine wB ?_|refine wH ?_|refine wI ?_|refine wJ ?_|refine wC ?_|refine wD ?_|refine wE ?_|refine wF ?_|refine wG ?_|refine wK ?_|refine wL ?_|refine wM ?_|refine wN ?_|refine wO ?_|refine wP ?_|refine wQ ?_|refine wR ?_|refine wS ?_|refine wT ?_|refine wU ?_|refine wV ?_|refine wW ?_|refine wX ?_)
    refine Ops.callE (heldIntS_ok (cF_at hu).1 (by omega) (by omega)) ?_
    repeat' (first|refine wA ?_|refine wB ?_|refine wH ?_|refine wI ?_|refine wJ ?_|refine wC ?_|refine wD ?_|refine wE ?_|refine wF ?_|refine wG ?_|refine wK ?_|refine wL ?_|refine wM ?_|refine wN ?_|refine wO ?_|refine wP ?_|refine wQ ?_|refine wR ?_|refine wS ?_|refine wT ?_|refine wU ?_|refine wV ?_|refine wW ?_|refine wX ?_)
    refine Ops.cmp rfl rfl rfl (fun hc2 => ?_) (fun hc2 => ?_)
    · omega
    · repeat' (first|refine wA ?_|refine wB ?_|refine wH ?_|refine wI ?_|refine wJ ?_|refine wC ?_|refine wD ?_|refine wE ?_|refine wF ?_|refine wG ?_|refine wK ?_|refine wL ?_|refine wM ?_|refine wN ?_|refine wO ?_|refine wP ?_|refine wQ ?_|refine wR ?_|refine wS ?_|refine wT ?_|refine wU ?_|refine wV ?_|refine wW ?_|refine wX ?_)
      have htot2 : k + (total (ls.take (i + 1)) : Int) = k + (total (ls.take i) : Int) + (l.length : Int) := by
        rw [take_snoc hx', total_append]; simp only [total]; omega
      refine ⟨i + 1, by dsimp only; omega, rfl, rfl, by dsimp only; rw [htot2]; exact (by repeat (first | exact Wk.jk | refine Wk.up rfl ?_)), by omega⟩
  · repeat' (first|refine wA ?_|refine wB ?_|refine wH ?_|refine wI ?_|refine wJ ?_|refine wC ?_|refine wD ?_|refine wE ?_|refine wF ?_|refine wG ?_|refine wK ?_|refine wL ?_|refine wM ?_|refine wN ?_|refine wO ?_|refine wP ?_|refine wQ ?_|refine wR ?_|refine wS ?_|refine wT ?_|refine wU ?_|refine wV ?_|refine wW ?_|refine wX ?_)
    refine Run.ret ⟨.inl rfl, ResK.tmp rfl (by conv => lhs; whnf) (ResK.nil ?_)⟩
    have hil : i = ls.length := by omega
    subst hil
    rw [List.take_length]
    exact ⟨rfl, rfl⟩

theorem l1In_ok {H : Hp} {x a b : Int} : acall Try.prog 58 [.int .i64 x, .int .i64 a, .int .i64 b] H (.bool (decide (a ≤ x ∧ x ≤ b))) H := by
  refine CallK.eq (CallK.enter Try.func58 rfl rfl Try.ntmps58 Try.results58 rfl ?_)
  repeat' (first|refine wA ?_|refine wB ?_|refine wH ?_|refine wI ?_|refine wJ ?_|refine wC ?_|refine wD ?_|refine wE ?_|refine wF ?_|refine wG ?_|refine wK ?_|refine wL ?_|refine wM ?_|refine wN ?_|refine wO ?_|refine wP ?_|refine wQ ?_|refine wR ?_|refine wS ?_|refine wT ?_|refine wU ?_|refine wV ?_|refine wW ?_|refine wX ?_)
  refine Ops.cmp rfl rfl rfl (fun hc => ?_) (fun hc => ?_)
  · repeat' (first|refine wA ?_|refine wB ?_|refine wH ?_|refine wI ?_|refine wJ ?_|refine wC ?_|refine wD ?_|refine wE ?_|refine wF ?_|refine wG ?_|refine wK ?_|refine wL ?_|refine wM ?_|refine wN ?_|refine wO ?_|refine wP ?_|refine wQ ?_|refine wR ?_|refine wS ?_|refine wT ?_|refine wU ?_|refine wV ?_|refine wW ?_|refine wX ?_)
    refine Ops.cmp rfl rfl rfl (fun hc2 => ?_) (fun hc2 => ?_)
    · repeat' (first|refine wA ?_|refine wB ?_|refine wH ?_|refine wI ?_|refine wJ ?_|refine wC ?_|refine wD ?_|refine wE ?_|refine wF ?_|refine wG ?_|refine wK ?_|refine wL ?_|refine wM ?_|refine wN ?_|refine wO ?_|refine wP ?_|refine wQ ?_|refine wR ?_|refine wS ?_|refine wT ?_|refine wU ?_|refine wV ?_|refine wW ?_|refine wX ?_)
      refine Run.ret ⟨.inl rfl, ResK.tmp rfl (by conv => lhs; whnf) (ResK.nil ?_)⟩
      exact ⟨by simp [resVal, hc2]; omega, rfl⟩
    · repeat' (first|refine wA ?_|refine wB ?_|refine wH ?_|refine wI ?_|refine wJ ?_|refine wC ?_|refine wD ?_|refine wE ?_|refine wF ?_|refine wG ?_|refine wK ?_|refine wL ?_|refine wM ?_|refine wN ?_|refine wO ?_|refine wP ?_|refine wQ ?_|refine wR ?_|refine wS ?_|refine wT ?_|refine wU ?_|refine wV ?_|refine wW ?_|refine wX ?_)
      refine Run.ret ⟨.inl rfl, ResK.tmp rfl (by conv => lhs; whnf) (ResK.nil ?_)⟩
      exact ⟨by simp [resVal, hc2], rfl⟩
  · repeat' (first|refine wA ?_|refine wB ?_|refine wH ?_|refine wI ?_|refine wJ ?_|refine wC ?_|refine wD ?_|refine wE ?_|refine wF ?_|refine wG ?_|refine wK ?_|refine wL ?_|refine wM ?_|refine wN ?_|refine wO ?_|refine wP ?_|refine wQ ?_|refine wR ?_|refine wS ?_|refine wT ?_|refine wU ?_|refine wV ?_|refine wW ?_|refine wX ?_)
    refine Run.ret ⟨.inl rfl, ResK.tmp rfl (by conv => lhs; whnf) (ResK.nil ?_)⟩
    exact ⟨by simp [resVal]; omega, rfl⟩

theorem l1Max_ok {H : Hp} {a b : Int} : acall Try.prog 85 [.int .i64 a, .int .i64 b] H (.int .i64 (max a b)) H := by
  refine CallK.eq (CallK.enter Try.func85 rfl rfl Try.ntmps85 Try.results85 rfl ?_)
  repeat' (first|refine wA ?_|refine wB ?_|refine wH ?_|refine wI ?_|refine wJ ?_|refine wC ?_|refine wD ?_|refine wE ?_|refine wF ?_|refine wG ?_|refine wK ?_|refine wL ?_|refine wM ?_|refine wN ?_|refine wO ?_|refine wP ?_|refine wQ ?_|refine wR ?_|refine wS ?_|refine wT ?_|refine wU ?_|refine wV ?_|refine wW ?_|refine wX ?_)
  refine Ops.cmp rfl rfl rfl (fun hc => ?_) (fun hc => ?_)
  · repeat' (first|refine wA ?_|refine wB ?_|refine wH ?_|refine wI ?_|refine wJ ?_|refine wC ?_|refine wD ?_|refine wE ?_|refine wF ?_|refine wG ?_|refine wK ?_|refine wL ?_|refine wM ?_|refine wN ?_|refine wO ?_|refine wP ?_|refine wQ ?_|refine wR ?_|refine wS ?_|refine wT ?_|refine wU ?_|refine wV ?_|refine wW ?_|refine wX ?_)
    refine Run.ret ⟨.inl rfl, ResK.tmp rfl (by conv => lhs; whnf) (ResK.nil ?_)⟩
    exact ⟨by show Value.int _ _ = Value.int _ _; congr 1; omega, rfl⟩
  · repeat' (first|refine wA ?_|refine wB ?_|refine wH ?_|refine wI ?_|refine wJ ?_|refine wC ?_|refine wD ?_|refine wE ?_|refine wF ?_|refine wG ?_|refine wK ?_|refine wL ?_|refine wM ?_|refine wN ?_|refine wO ?_|refine wP ?_|refine wQ ?_|refine wR ?_|refine wS ?_|refine wT ?_|refine wU ?_|refine wV ?_|refine wW ?_|refine wX ?_)
    refine Run.ret ⟨.inl rfl, ResK.tmp rfl (by conv => lhs; whnf) (ResK.nil ?_)⟩
    exact ⟨by show Value.int _ _ = Value.int _ _; congr 1; omega, rfl⟩

theorem l1Copy_ok {H : Hp} {v : Value} {l : List Int} (h : Sl cI H v l) (hl : l.length ≤ 16777216) : CallK Try.prog 86 [v] H (fun r H' => Calm H H' ∧ Ac cI 3 H.nxt H' r l) := by
  refine (CallK.enter Try.func86 rfl rfl Try.ntmps86 Try.results86 rfl ?_)
  repeat' (first|refine wA ?_|refine wB ?_|refine wH ?_|refine wI ?_|refine wJ ?_|refine wC ?_|refine wD ?_|refine wE ?_|refine wF ?_|refine wG ?_|refine wK ?_|refine wL ?_|refine wM ?_|refine wN ?_|refine wO ?_|refine wP ?_|refine wQ ?_|refine wR ?_|refine wS ?_|refine wT ?_|refine wU ?_|refine wV ?_|refine wW ?_|refine wX ?_)
  refine Ops.lit0 cI 3 H.nxt (by kernel_rfl) (by kernel_rfl) (Nat.le_refl _) fun u H1 a1 c1 p1 => ?_
  repeat' (first|refine wA ?_|refine wB ?_|refine wH ?_|refine wI ?_|refine wJ ?_|refine wC ?_|refine wD ?_|refine wE ?_|refine wF ?_|refine wG ?_|refine wK ?_|refine wL ?_|refine wM ?_|refine wN ?_|refine wO ?_|refine wP ?_|refine wQ ?_|refine wR ?_|refine wS ?_|refine wT ?_|refine wU ?_|refine wV ?_|refine wW ?_|refine wX ?_)
  refine Ops.cat rfl rdI a1 (h.calm c1) c1.1 (by kernel_rfl) (by kernel_rfl) (by simp; omega) fun u2 H2 a2 g2 => ?_
  repeat' (first|refine wA ?_|refine wB ?_|refine wH ?_|refine wI ?_|refine wJ ?_|refine wC ?_|refine wD ?_|refine wE ?_|refine wF ?_|refine wG ?_|refine wK ?_|refine wL ?_|refine wM ?_|refine wN ?_|refine wO ?_|refine wP ?_|refine wQ ?_|refine wR ?_|refine wS ?_|refine wT ?_|refine wU ?_|refine wV ?_|refine wW ?_|refine wX ?_)
  refine Run.ret ⟨.inl rfl, ResK.tmp rfl (by conv => lhs; whnf) (ResK.nil ?_)⟩
  exact ⟨g2.calm H (Nat.le_refl _) c1, a2⟩

theorem clone_ok {H : Hp} {v : Value} {l : List Int} (h : Sl cI H v l) (hl : l.length ≤ 16777216) : CallK Try.prog 100 [v] H (fun r H' => Calm H H' ∧ Ac cI 3 H.nxt H' r l) := by
  obtain ⟨p, hp⟩ := h.val
  refine (CallK.enter Try.func100 rfl rfl Try.ntmps100 Try.results100 rfl ?_)
  repeat' (first|refine wA ?_|refine wB ?_|refine wH ?_|refine wI ?_|refine wJ ?_|refine wC ?_|refine wD ?_|refine wE ?_|refine wF ?_|refine wG ?_|refine wK ?_|refine wL ?_|refine wM ?_|refine wN ?_|refine wO ?_|refine wP ?_|refine wQ ?_|refine wR ?_|refine wS ?_|refine wT ?_|refine wU ?_|refine wV ?_|refine wW ?_|refine wX ?_)
  refine Ops.isnil cI (show rd _ _ = _ from hp) (by kernel_rfl) ?_
  cases p with
  | none =>
    repeat' (first|refine wA ?_|refine wB ?_|refine wH ?_|refine wI ?_|refine wJ ?_|refine wC ?_|refine wD ?_|refine wE ?_|refine wF ?_|refine wG ?_|refine wK ?_|refine wL ?_|refine wM ?_|refine wN ?_|refine wO ?_|refine wP ?_|refine wQ ?_|refine wR ?_|refine wS ?_|refine wT ?_|refine wU ?_|refine wV ?_|refine wW ?_|refine wX ?_)
    refine Run.ret ⟨.inl rfl, ResK.tmp rfl (by conv => lhs; whnf) (ResK.nil ?_)⟩
    have : l = [] := by
      rcases h with ⟨h, _⟩ | ⟨id, off, ob, h, _⟩
      · exact h
      · rw [hp] at h; cases h
    subst this
    exact ⟨Calm.refl _, Ac.nil⟩
  | some q =>
    repeat' (first|refine wA ?_|refine wB ?_|refine wH ?_|refine wI ?_|refine wJ ?_|refine wC ?_|refine wD ?_|refine wE ?_|refine wF ?_|refine wG ?_|refine wK ?_|refine wL ?_|refine wM ?_|refine wN ?_|refine wO ?_|refine wP ?_|refine wQ ?_|refine wR ?_|refine wS ?_|refine wT ?_|refine wU ?_|refine wV ?_|refine wW ?_|refine wX ?_)
    refine Ops.lit0 cI 3 H.nxt (by kernel_rfl) (by kernel_rfl) (Nat.le_refl _) fun u H1 a1 c1 p1 => ?_
    repeat' (first|refine wA ?_|refine wB ?_|refine wH ?_|refine wI ?_|refine wJ ?_|refine wC ?_|refine wD ?_|refine wE ?_|refine wF ?_|refine wG ?_|refine wK ?_|refine wL ?_|refine wM ?_|refine wN ?_|refine wO ?_|refine wP ?_|refine wQ ?_|refine wR ?_|refine wS ?_|refine wT ?_|refine wU ?_|refine wV ?_|refine wW ?_|refine wX ?_)
    refine Ops.cat rfl rdI a1 (h.calm c1) c1.1 (by kernel_rfl) (by kernel_rfl) (by simp; omega) fun u2 H2 a2 g2 => ?_
    repeat' (first|refine wA ?_|refine wB ?_|refine wH ?_|refine wI ?_|refine wJ ?_|refine wC ?_|refine wD ?_|refine wE ?_|refine wF ?_|refine wG ?_|refine wK ?_|refine wL ?_|refine wM ?_|refine wN ?_|refine wO ?_|refine wP ?_|refine wQ ?_|refine wR ?_|refine wS ?_|refine wT ?_|refine wU ?_|refine wV ?_|refine wW ?_|refine wX ?_)
    refine Run.ret ⟨.inl rfl, ResK.tmp rfl (by conv => lhs; whnf) (ResK.nil ?_)⟩
    exact ⟨g2.calm H (Nat.le_refl _) c1, a2⟩

end Go.Proofs.Ytefmjpbmdoebaaa

/- Constants, tuples, patterns of a tuple: what the program's and the reference's functions compute. -/
set_option linter.unusedVariables false
namespace Go.Proofs.Ytefmjpbmdoebaaa
open Go Go.RowKit

def isAtomP (x : Int) : Prop := 0 ≤ x ∧ x ≤ 999
def isConst (l : List Int) : Prop := l.length ≤ 3 ∧ ∀ (i : Nat) (a : Int), l[i]? = some a → isAtomP a ∧ ∀ b, 0 < i → l[i - 1]? = some b → b < a
def isTup (l : List Int) : Prop := l.length ≤ 4 ∧ ∀ a ∈ l, isAtomP a

theorem l1Atom_ok {H : Hp} {x : Int} : acall Try.prog 87 [.int .i64 x] H (.bool (dec (isAtomP x))) H := by
  refine CallK.eq (CallK.enter Try.func87 rfl rfl Try.ntmps87 Try.results87 rfl ?_)
  repeat' (first|refine wA ?_|refine wB ?_|refine wH ?_|refine wI ?_|refine wJ ?_|refine wC ?_|refine wD ?_|refine wE ?_|refine wF ?_|refine wG ?_|refine wK ?_|refine wL ?_|refine wM ?_|refine wN ?_|refine wO ?_|refine wP ?_|refine wQ ?_|refine wR ?_|refine wS ?_|refine wT ?_|refine wU ?_|refine wV ?_|refine wW ?_|refine wX ?_)
  refine Ops.callE l1In_ok ?_
  repeat' (first|refine wA ?_|refine wB ?_|refine wH ?_|refine wI ?_|refine wJ ?_|refine wC ?_|refine wD ?_|refine wE ?_|refine wF ?_|refine wG ?_|refine wK ?_|refine wL ?_|refine wM ?_|refine wN ?_|refine wO ?_|refine wP ?_|refine wQ ?_|refine wR ?_|refine wS ?_|refine wT ?_|refine wU ?_|refine wV ?_|refine wW ?_|refine wX ?_)
  refine Run.ret ⟨.inl rfl, ResK.tmp rfl (by conv => lhs; whnf) (ResK.nil ?_)⟩
  refine ⟨?_, rfl⟩
  by_cases h : isAtomP x
  · have h' := h
    unfold isAtomP at h'
    simp [resVal, dec_t h, h']
  · have h' := h
    unfold isAtomP at h'
    simp [resVal, dec_f h]
    omega

theorem isAtom_ok {H : Hp} {x : Int} : acall Try.prog 88 [.int .i64 x] H (.bool (dec (isAtomP x))) H := by
  refine CallK.eq (CallK.enter Try.func88 rfl rfl Try.ntmps88 Try.results88 rfl ?_)
  repeat' (first|refine wA ?_|refine wB ?_|refine wH ?_|refine wI ?_|refine wJ ?_|refine wC ?_|refine wD ?_|refine wE ?_|refine wF ?_|refine wG ?_|refine wK ?_|refine wL ?_|refine wM ?_|refine wN ?_|refine wO ?_|refine wP ?_|refine wQ ?_|refine wR ?_|refine wS ?_|refine wT ?_|refine wU ?_|refine wV ?_|refine wW ?_|refine wX ?_)
  refine Ops.cmp rfl rfl rfl (fun hc => ?_) (fun hc => ?_)
  · repeat' (first|refine wA ?_|refine wB ?_|refine wH ?_|refine wI ?_|refine wJ ?_|refine wC ?_|refine wD ?_|refine wE ?_|refine wF ?_|refine wG ?_|refine wK ?_|refine wL ?_|refine wM ?_|refine wN ?_|refine wO ?_|refine wP ?_|refine wQ ?_|refine wR ?_|refine wS ?_|refine wT ?_|refine wU ?_|refine wV ?_|refine wW ?_|refine wX ?_)
    refine Ops.cmp rfl rfl rfl (fun hc2 => ?_) (fun hc2 => ?_)
    · repeat' (first|refine wA ?_|refine wB ?_|refine wH ?_|refine wI ?_|refine wJ ?_|refine wC ?_|refine wD ?_|refine wE ?_|refine wF ?_|refine wG ?_|refine wK ?_|refine wL ?_|refine wM ?_|refine wN ?_|refine wO ?_|refine wP ?_|refine wQ ?_|refine wR ?_|refine wS ?_|refine wT ?_|refine wU ?_|refine wV ?_|refine wW ?_|refine wX ?_)
      refine Run.ret ⟨.inl rfl, ResK.tmp rfl (by conv => lhs; whnf) (ResK.nil ?_)⟩
      exact ⟨by rw [dec_t ⟨hc, hc2⟩]; rfl, rfl⟩
    · repeat' (first|refine wA ?_|refine wB ?_|refine wH ?_|refine wI ?_|refine wJ ?_|refine wC ?_|refine wD ?_|refine wE ?_|refine wF ?_|refine wG ?_|refine wK ?_|refine wL ?_|refine wM ?_|refine wN ?_|refine wO ?_|refine wP ?_|refine wQ ?_|refine wR ?_|refine wS ?_|refine wT ?_|refine wU ?_|refine wV ?_|refine wW ?_|refine wX ?_)
      refine Run.ret ⟨.inl rfl, ResK.tmp rfl (by conv => lhs; whnf) (ResK.nil ?_)⟩
      exact ⟨by rw [dec_f (fun h => hc2 h.2)]; rfl, rfl⟩
  · repeat' (first|refine wA ?_|refine wB ?_|refine wH ?_|refine wI ?_|refine wJ ?_|refine wC ?_|refine wD ?_|refine wE ?_|refine wF ?_|refine wG ?_|refine wK ?_|refine wL ?_|refine wM ?_|refine wN ?_|refine wO ?_|refine wP ?_|refine wQ ?_|refine wR ?_|refine wS ?_|refine wT ?_|refine wU ?_|refine wV ?_|refine wW ?_|refine wX ?_)
    refine Run.ret ⟨.inl rfl, ResK.tmp rfl (by conv => lhs; whnf) (ResK.nil ?_)⟩
    exact ⟨by rw [dec_f (fun h => hc h.1)]; rfl, rfl⟩

theorem l6Tuple_ok {H : Hp} {v : Value} {l : List Int} (h : Sl cI H v l) : acall Try.prog 62 [v] H (.bool (dec (isTup l))) H := by
  have hmx := h.max
  simp only [maxLen] at hmx
  refine CallK.eq (CallK.enter Try.func62 rfl rfl Try.ntmps62 Try.results62 rfl ?_)
  repeat' (first|refine wA ?_|refine wB ?_|refine wH ?_|refine wI ?_|refine wJ ?_|refine wC ?_|refine wD ?_|refine wE ?_|refine wF ?_|refine wG ?_|refine wK ?_|refine wL ?_|refine wM ?_|refine wN ?_|refine wO ?_|refine wP ?_|refine wQ ?_|refine wR ?_|refine wS ?_|refine wT ?_|refine wU ?_|refine wV ?_|refine wW ?_|refine wX ?_)
  refine Run.loopW (fun i => l.length - i) (fun (i : Nat) => up (up (up (up jk 0 v) 5 v) 6 (.int .i64 l.length)) 7 (.int .i64 (i : Int))) (fun _ => H) (fun i => i ≤ l.length ∧ ∀ a ∈ l.take i, isAtomP a) 0 rfl (by repeat (first | exact Wk.jk | refine Wk.up rfl ?_)) ⟨by omega, by simp⟩ ?_
  rintro i ⟨hi, hx⟩
  repeat' (first|refine wA ?_|refine wB ?_|refine wH ?_|refine wI ?_|refine wJ ?_|refine wC ?_|refine wD ?_|refine wE ?_|refine wF ?_|refine wG ?_|refine wK ?_|refine wL ?_|refine wM ?_|refine wN ?_|refine wO ?_|refine wP ?_|refine wQ ?_|refine wR ?_|refine wS ?_|refine wT ?_|refine wU ?_|refine wV ?_|refine wW ?_|refine wX ?_)
  refine Ops.cmp rfl rfl rfl (fun hc => ?_) (fun hc => ?_)
  · repeat' (first|refine wA ?_|refine wB ?_|refine wH ?_|refine wI ?_|refine wJ ?_|refine wC ?_|refine wD ?_|refine wE ?_|refine wF ?_|refine wG ?_|refine wK ?_|refine wL ?_|refine wM ?_|refine wN ?_|refine wO ?_|refine wP ?_|refine wQ ?_|refine wR ?_|refine wS ?_|refine wT ?_|refine wU ?_|refine wV ?_|refine wW ?_|refine wX ?_)
    refine Ops.idxI h rfl (by omega) (by omega) (by kernel_rfl) (by kernel_rfl) fun pz a ha => ?_
    have ha' : l[i]? = some a := ha
    repeat' (first|refine wA ?_|refine wB ?_|refine wH ?_|refine wI ?_|refine wJ ?_|refine wC ?_|refine wD ?_|refine wE ?_|refine wF ?_|refine wG ?_|refine wK ?_|refine wL ?_|refine wM ?_|refine wN ?_|refine wO ?_|refine wP ?_|refine wQ ?_|refine wR ?_|refine wS ?_|refine wT ?_|refine wU ?_|refine wV ?_|refine wW ?_|refine wX ?_)
    refine Ops.callB l1Atom_ok (fun hc2 => ?_) (fun hc2 => ?_)
    · repeat' (first|refine wA ?_|refine wB ?_|refine wH ?_|refine wI ?_|refine wJ ?_|refine wC ?_|refine wD ?_|refine wE ?_|refine wF ?_|refine wG ?_|refine wK ?_|refine wL ?_|refine wM ?_|refine wN ?_|refine wO ?_|refine wP ?_|refine wQ ?_|refine wR ?_|refine wS ?_|refine wT ?_|refine wU ?_|refine wV ?_|refine wW ?_|refine wX ?_)
      refine ⟨i + 1, by dsimp only; omega, rfl, rfl, by dsimp only; exact (by repeat (first | exact Wk.jk | refine Wk.up rfl ?_)), ?_⟩
      refine ⟨by omega, fun b hb => ?_⟩
      rw [take_snoc ha'] at hb
      rcases List.mem_append.1 hb with h1 | h1
      · exact hx b h1
      · obtain rfl := List.mem_singleton.1 h1
        exact of_dec_t hc2
    · repeat' (first|refine wA ?_|refine wB ?_|refine wH ?_|refine wI ?_|refine wJ ?_|refine wC ?_|refine wD ?_|refine wE ?_|refine wF ?_|refine wG ?_|refine wK ?_|refine wL ?_|refine wM ?_|refine wN ?_|refine wO ?_|refine wP ?_|refine wQ ?_|refine wR ?_|refine wS ?_|refine wT ?_|refine wU ?_|refine wV ?_|refine wW ?_|refine wX ?_)
      refine Run.ret ⟨.inl rfl, ResK.tmp rfl (by conv => lhs; whnf) (ResK.nil ?_)⟩
      refine ⟨?_, rfl⟩
      rw [dec_f (fun h => of_dec_f hc2 (h.2 a (List.mem_of_getElem? ha')))]; rfl
  · repeat' (first|refine wA ?_|refine wB ?_|refine wH ?_|refine wI ?_|refine wJ ?_|refine wC ?_|refine wD ?_|refine wE ?_|refine wF ?_|refine wG ?_|refine wK ?_|refine wL ?_|refine wM ?_|refine wN ?_|refine wO ?_|refine wP ?_|refine wQ ?_|refine wR ?_|refine wS ?_|refine wT ?_|refine wU ?_|refine wV ?_|refine wW ?_|refine wX ?_)
    rw [take_end (by omega)] at hx
    refine Ops.cmp rfl rfl rfl (fun hc2 => ?_) (fun hc2 => ?_)
    · repeat' (first|refine wA ?_|refine wB ?_|refine wH ?_|refine wI ?_|refine wJ ?_|refine wC ?_|refine wD ?_|refine wE ?_|refine wF ?_|refine wG ?_|refine wK ?_|refine wL ?_|refine wM ?_|refine wN ?_|refine wO ?_|refine wP ?_|refine wQ ?_|refine wR ?_|refine wS ?_|refine wT ?_|refine wU ?_|refine wV ?_|refine wW ?_|refine wX ?_)
      refine Run.ret ⟨.inl rfl, ResK.tmp rfl (by conv => lhs; whnf) (ResK.nil ?_)⟩
      exact ⟨by rw [dec_t ⟨by omega, hx⟩]; rfl, rfl⟩
    · repeat' (first|refine wA ?_|refine wB ?_|refine wH ?_|refine wI ?_|refine wJ ?_|refine wC ?_|refine wD ?_|refine wE ?_|refine wF ?_|refine wG ?_|refine wK ?_|refine wL ?_|refine wM ?_|refine wN ?_|refine wO ?_|refine wP ?_|refine wQ ?_|refine wR ?_|refine wS ?_|refine wT ?_|refine wU ?_|refine wV ?_|refine wW ?_|refine wX ?_)
      refine Run.ret ⟨.inl rfl, ResK.tmp rfl (by conv => lhs; whnf) (ResK.nil ?_)⟩
      exact ⟨by rw [dec_f (fun h => by have := h.1; omega)]; rfl, rfl⟩

theorem l6Constants_ok {H : Hp} {v : Value} {l : List Int} (h : Sl cI H v l) : acall Try.prog 61 [v] H (.bool (dec (isConst l))) H := by
  have hmx := h.max
  simp only [maxLen] at hmx
  refine CallK.eq (CallK.enter Try.func61 rfl rfl Try.ntmps61 Try.results61 rfl ?_)
  repeat' (first|refine wA ?_|refine wB ?_|refine wH ?_|refine wI ?_|refine wJ ?_|refine wC ?_|refine wD ?_|refine wE ?_|refine wF ?_|refine wG ?_|refine wK ?_|refine wL ?_|refine wM ?_|refine wN ?_|refine wO ?_|refine wP ?_|refine wQ ?_|refine wR ?_|refine wS ?_|refine wT ?_|refine wU ?_|refine wV ?_|refine wW ?_|refine wX ?_)
  refine Run.loopW (fun i => l.length - i) (fun (i : Nat) => up (up (up (up jk 0 v) 5 v) 6 (.int .i64 l.length)) 7 (.int .i64 (i : Int))) (fun _ => H)
    (fun i => i ≤ l.length ∧ ∀ (j : Nat) (a : Int), j < i → l[j]? = some a → isAtomP a ∧ ∀ b, 0 < j → l[j - 1]? = some b → b < a) 0 rfl (by repeat (first | exact Wk.jk | refine Wk.up rfl ?_)) ⟨by omega, fun j a h => by omega⟩ ?_
  rintro i ⟨hi, hx⟩
  repeat' (first|refine wA ?_|refine wB ?_|refine wH ?_|refine wI ?_|refine wJ ?_|refine wC ?_|refine wD ?_|refine wE ?_|refine wF ?_|refine wG ?_|refine wK ?_|refine wL ?_|refine wM ?_|refine wN ?_|refine wO ?_|refine wP ?_|refine wQ ?_|refine wR ?_|refine wS ?_|refine wT ?_|refine wU ?_|refine wV ?_|refine wW ?_|refine wX ?_)
  refine Ops.cmp rfl rfl rfl (fun hc => ?_) (fun hc => ?_)
  · repeat' (first|refine wA ?_|refine wB ?_|refine wH ?_|refine wI ?_|refine wJ ?_|refine wC ?_|refine wD ?_|refine wE ?_|refine wF ?_|refine wG ?_|refine wK ?_|refine wL ?_|refine wM ?_|refine wN ?_|refine wO ?_|refine wP ?_|refine wQ ?_|refine wR ?_|refine wS ?_|refine wT ?_|refine wU ?_|refine wV ?_|refine wW ?_|refine wX ?_)
    refine Ops.idxI h rfl (by omega) (by omega) (by kernel_rfl) (by kernel_rfl) fun pz a ha => ?_
    have ha' : l[i]? = some a := ha
    repeat' (first|refine wA ?_|refine wB ?_|refine wH ?_|refine wI ?_|refine wJ ?_|refine wC ?_|refine wD ?_|refine wE ?_|refine wF ?_|refine wG ?_|refine wK ?_|refine wL ?_|refine wM ?_|refine wN ?_|refine wO ?_|refine wP ?_|refine wQ ?_|refine wR ?_|refine wS ?_|refine wT ?_|refine wU ?_|refine wV ?_|refine wW ?_|refine wX ?_)
    refine Ops.callB l1Atom_ok (fun hc2 => ?_) (fun hc2 => ?_)
    · repeat' (first|refine wA ?_|refine wB ?_|refine wH ?_|refine wI ?_|refine wJ ?_|refine wC ?_|refine wD ?_|refine wE ?_|refine wF ?_|refine wG ?_|refine wK ?_|refine wL ?_|refine wM ?_|refine wN ?_|refine wO ?_|refine wP ?_|refine wQ ?_|refine wR ?_|refine wS ?_|refine wT ?_|refine wU ?_|refine wV ?_|refine wW ?_|refine wX ?_)
      refine Ops.cmp rfl rfl rfl (fun hc3 => ?_) (fun hc3 => ?_)
      · repeat' (first|refine wA ?_|refine wB ?_|refine wH ?_|refine wI ?_|refine wJ ?_|refine wC ?_|refine wD ?_|refine wE ?_|refine wF ?_|refine wG ?_|refine wK ?_|refine wL ?_|refine wM ?_|refine wN ?_|refine wO ?_|refine wP ?_|refine wQ ?_|refine wR ?_|refine wS ?_|refine wT ?_|refine wU ?_|refine wV ?_|refine wW ?_|refine wX ?_)
        refine Ops.unS rfl rfl rfl ?_
        refine Ops.idxI h rfl (by omega) (by omega) (by kernel_rfl) (by kernel_rfl) fun pz b hb => ?_
        have hb' : l[i - 1]? = some b := by rw [← hb]; congr 1; omega
        repeat' (first|refine wA ?_|refine wB ?_|refine wH ?_|refine wI ?_|refine wJ ?_|refine wC ?_|refine wD ?_|refine wE ?_|refine wF ?_|refine wG ?_|refine wK ?_|refine wL ?_|refine wM ?_|refine wN ?_|refine wO ?_|refine wP ?_|refine wQ ?_|refine wR ?_|refine wS ?_|refine wT ?_|refine wU ?_|refine wV ?_|refine wW ?_|refine wX ?_)
        refine Ops.cmp rfl rfl rfl (fun hc4 => ?_) (fun hc4 => ?_)
        · repeat' (first|refine wA ?_|refine wB ?_|refine wH ?_|refine wI ?_|refine wJ ?_|refine wC ?_|refine wD ?_|refine wE ?_|refine wF ?_|refine wG ?_|refine wK ?_|refine wL ?_|refine wM ?_|refine wN ?_|refine wO ?_|refine wP ?_|refine wQ ?_|refine wR ?_|refine wS ?_|refine wT ?_|refine wU ?_|refine wV ?_|refine wW ?_|refine wX ?_)
          refine Run.ret ⟨.inl rfl, ResK.tmp rfl (by conv => lhs; whnf) (ResK.nil ?_)⟩
          exact ⟨by rw [dec_f (fun h => by have := (h.2 i a ha').2 b (by omega) hb'; omega)]; rfl, rfl⟩
        · repeat' (first|refine wA ?_|refine wB ?_|refine wH ?_|refine wI ?_|refine wJ ?_|refine wC ?_|refine wD ?_|refine wE ?_|refine wF ?_|refine wG ?_|refine wK ?_|refine wL ?_|refine wM ?_|refine wN ?_|refine wO ?_|refine wP ?_|refine wQ ?_|refine wR ?_|refine wS ?_|refine wT ?_|refine wU ?_|refine wV ?_|refine wW ?_|refine wX ?_)
          refine ⟨i + 1, by dsimp only; omega, rfl, rfl, by dsimp only; exact (by repeat (first | exact Wk.jk | refine Wk.up rfl ?_)), ?_⟩
          refine ⟨by omega, fun j c hj hc' => ?_⟩
          by_cases e : j = i
          · subst e
            rw [ha'] at hc'; cases hc'
            refine ⟨of_dec_t hc2, fun d _ hd => ?_⟩
            rw [hb'] at hd; cases hd; omega
          · exact hx j c (by omega) hc'
      · repeat' (first|refine wA ?_|refine wB ?_|refine wH ?_|refine wI ?_|refine wJ ?_|refine wC ?_|refine wD ?_|refine wE ?_|refine wF ?_|refine wG ?_|refine wK ?_|refine wL ?_|refine wM ?_|refine wN ?_|refine wO ?_|refine wP ?_|refine wQ ?_|refine wR ?_|refine wS ?_|refine wT ?_|refine wU ?_|refine wV ?_|refine wW ?_|refine wX ?_)
        refine ⟨i + 1, by dsimp only; omega, rfl, rfl, by dsimp only; exact (by repeat (first | exact Wk.jk | refine Wk.up rfl ?_)), ?_⟩
        refine ⟨by omega, fun j c hj hc' => ?_⟩
        by_cases e : j = i
        · subst e
          rw [ha'] at hc'; cases hc'
          exact ⟨of_dec_t hc2, fun d h0 hd => by omega⟩
        · exact hx j c (by omega) hc'
    · repeat' (first|refine wA ?_|refine wB ?_|refine wH ?_|refine wI ?_|refine wJ ?_|refine wC ?_|refine wD ?_|refine wE ?_|refine wF ?_|refine wG ?_|refine wK ?_|refine wL ?_|refine wM ?_|refine wN ?_|refine wO ?_|refine wP ?_|refine wQ ?_|refine wR ?_|refine wS ?_|refine wT ?_|refine wU ?_|refine wV ?_|refine wW ?_|refine wX ?_)
      refine Run.ret ⟨.inl rfl, ResK.tmp rfl (by conv => lhs; whnf) (ResK.nil ?_)⟩
      exact ⟨by rw [dec_f (fun h => of_dec_f hc2 (h.2 i a ha').1)]; rfl, rfl⟩
  · repeat' (first|refine wA ?_|refine wB ?_|refine wH ?_|refine wI ?_|refine wJ ?_|refine wC ?_|refine wD ?_|refine wE ?_|refine wF ?_|refine wG ?_|refine wK ?_|refine wL ?_|refine wM ?_|refine wN ?_|refine wO ?_|refine wP ?_|refine wQ ?_|refine wR ?_|refine wS ?_|refine wT ?_|refine wU ?_|refine wV ?_|refine wW ?_|refine wX ?_)
    have hall : ∀ (j : Nat) (a : Int), l[j]? = some a → isAtomP a ∧ ∀ b, 0 < j → l[j - 1]? = some b → b < a := fun j a hj => hx j a (by have := (List.getElem?_eq_some_iff.1 hj).1; omega) hj
    refine Ops.cmp rfl rfl rfl (fun hc2 => ?_) (fun hc2 => ?_)
    · repeat' (first|refine wA ?_|refine wB ?_|refine wH ?_|refine wI ?_|refine wJ ?_|refine wC ?_|refine wD ?_|refine wE ?_|refine wF ?_|refine wG ?_|refine wK ?_|refine wL ?_|refine wM ?_|refine wN ?_|refine wO ?_|refine wP ?_|refine wQ ?_|refine wR ?_|refine wS ?_|refine wT ?_|refine wU ?_|refine wV ?_|refine wW ?_|refine wX ?_)
      refine Run.ret ⟨.inl rfl, ResK.tmp rfl (by conv => lhs; whnf) (ResK.nil ?_)⟩
      exact ⟨by rw [dec_t ⟨by omega, hall⟩]; rfl, rfl⟩
    · repeat' (first|refine wA ?_|refine wB ?_|refine wH ?_|refine wI ?_|refine wJ ?_|refine wC ?_|refine wD ?_|refine wE ?_|refine wF ?_|refine wG ?_|refine wK ?_|refine wL ?_|refine wM ?_|refine wN ?_|refine wO ?_|refine wP ?_|refine wQ ?_|refine wR ?_|refine wS ?_|refine wT ?_|refine wU ?_|refine wV ?_|refine wW ?_|refine wX ?_)
      refine Run.ret ⟨.inl rfl, ResK.tmp rfl (by conv => lhs; whnf) (ResK.nil ?_)⟩
      exact ⟨by rw [dec_f (fun h => by have := h.1; omega)]; rfl, rfl⟩

theorem areConstants_ok {H : Hp} {v : Value} {l : List Int} (h : Sl cI H v l) : acall Try.prog 64 [v] H (.bool (dec (isConst l))) H := by
  have hmx := h.max
  simp only [maxLen] at hmx
  refine CallK.eq (CallK.enter Try.func64 rfl rfl Try.ntmps64 Try.results64 rfl ?_)
  repeat' (first|refine wA ?_|refine wB ?_|refine wH ?_|refine wI ?_|refine wJ ?_|refine wC ?_|refine wD ?_|refine wE ?_|refine wF ?_|refine wG ?_|refine wK ?_|refine wL ?_|refine wM ?_|refine wN ?_|refine wO ?_|refine wP ?_|refine wQ ?_|refine wR ?_|refine wS ?_|refine wT ?_|refine wU ?_|refine wV ?_|refine wW ?_|refine wX ?_)
  refine Ops.cmp rfl rfl rfl (fun hc0 => ?_) (fun hc0 => ?_)
  · repeat' (first|refine wA ?_|refine wB ?_|refine wH ?_|refine wI ?_|refine wJ ?_|refine wC ?_|refine wD ?_|refine wE ?_|refine wF ?_|refine wG ?_|refine wK ?_|refine wL ?_|refine wM ?_|refine wN ?_|refine wO ?_|refine wP ?_|refine wQ ?_|refine wR ?_|refine wS ?_|refine wT ?_|refine wU ?_|refine wV ?_|refine wW ?_|refine wX ?_)
    refine Run.ret ⟨.inl rfl, ResK.tmp rfl (by conv => lhs; whnf) (ResK.nil ?_)⟩
    exact ⟨by rw [dec_f (fun h => by have := h.1; omega)]; rfl, rfl⟩
  · repeat' (first|refine wA ?_|refine wB ?_|refine wH ?_|refine wI ?_|refine wJ ?_|refine wC ?_|refine wD ?_|refine wE ?_|refine wF ?_|refine wG ?_|refine wK ?_|refine wL ?_|refine wM ?_|refine wN ?_|refine wO ?_|refine wP ?_|refine wQ ?_|refine wR ?_|refine wS ?_|refine wT ?_|refine wU ?_|refine wV ?_|refine wW ?_|refine wX ?_)
    refine Run.loopW (fun i => l.length - i) (fun (i : Nat) => up (up (up (up jk 0 v) 8 v) 9 (.int .i64 l.length)) 10 (.int .i64 (i : Int))) (fun _ => H)
      (fun i => i ≤ l.length ∧ ∀ (j : Nat) (a : Int), j < i → l[j]? = some a → isAtomP a ∧ ∀ b, 0 < j → l[j - 1]? = some b → b < a) 0 rfl (by repeat (first | exact Wk.jk | refine Wk.up rfl ?_)) ⟨by omega, fun j a h => by omega⟩ ?_
    rintro i ⟨hi, hx⟩
    repeat' (first|refine wA ?_|refine wB ?_|refine wH ?_|refine wI ?_|refine wJ ?_|refine wC ?_|refine wD ?_|refine wE ?_|refine wF ?_|refine wG ?_|refine wK ?_|refine wL ?_|refine wM ?_|refine wN ?_|refine wO ?_|refine wP ?_|refine wQ ?_|refine wR ?_|refine wS ?_|refine wT ?_|refine wU ?_|refine wV ?_|refine wW ?_|refine wX ?_)
    refine Ops.cmp rfl rfl rfl (fun hc => ?_) (fun hc => ?_)
    · repeat' (first|refine wA ?_|refine wB ?_|refine wH ?_|refine wI ?_|refine wJ ?_|refine wC ?_|refine wD ?_|refine wE ?_|refine wF ?_|refine wG ?_|refine wK ?_|refine wL ?_|refine wM ?_|refine wN ?_|refine wO ?_|refine wP ?_|refine wQ ?_|refine wR ?_|refine wS ?_|refine wT ?_|refine wU ?_|refine wV ?_|refine wW ?_|refine wX ?_)
      refine Ops.idxI h rfl (by omega) (by omega) (by kernel_rfl) (by kernel_rfl) fun pz a ha => ?_
      have ha' : l[i]? = some a := ha
      repeat' (first|refine wA ?_|refine wB ?_|refine wH ?_|refine wI ?_|refine wJ ?_|refine wC ?_|refine wD ?_|refine wE ?_|refine wF ?_|refine wG ?_|refine wK ?_|refine wL ?_|refine wM ?_|refine wN ?_|refine wO ?_|refine wP ?_|refine wQ ?_|refine wR ?_|refine wS ?_|refine wT ?_|refine wU ?_|refine wV ?_|refine wW ?_|refine wX ?_)
      refine Ops.callB isAtom_ok (fun hc2 => ?_) (fun hc2 => ?_)
      · repeat' (first|refine wA ?_|refine wB ?_|refine wH ?_|refine wI ?_|refine wJ ?_|refine wC ?_|refine wD ?_|refine wE ?_|refine wF ?_|refine wG ?_|refine wK ?_|refine wL ?_|refine wM ?_|refine wN ?_|refine wO ?_|refine wP ?_|refine wQ ?_|refine wR ?_|refine wS ?_|refine wT ?_|refine wU ?_|refine wV ?_|refine wW ?_|refine wX ?_)
        refine Ops.cmp rfl rfl rfl (fun hc3 => ?_) (fun hc3 => ?_)
        · repeat' (first|refine wA ?_|refine wB ?_|refine wH ?_|refine wI ?_|refine wJ ?_|refine wC ?_|refine wD ?_|refine wE ?_|refine wF ?_|refine wG ?_|refine wK ?_|refine wL ?_|refine wM ?_|refine wN ?_|refine wO ?_|refine wP ?_|refine wQ ?_|refine wR ?_|refine wS ?_|refine wT ?_|refine wU ?_|refine wV ?_|refine wW ?_|refine wX ?_)
          refine Ops.unS rfl rfl rfl ?_
          refine Ops.idxI h rfl (by omega) (by omega) (by kernel_rfl) (by kernel_rfl) fun pz b hb => ?_
          have hb' : l[i - 1]? = some b := by rw [← hb]; congr 1; omega
          repeat' (first|refine wA ?_|refine wB ?_|refine wH ?_|refine wI ?_|refine wJ ?_|refine wC ?_|refine wD ?_|refine wE ?_|refine wF ?_|refine wG ?_|refine wK ?_|refine wL ?_|refine wM ?_|refine wN ?_|refine wO ?_|refine wP ?_|refine wQ ?_|refine wR ?_|refine wS ?_|refine wT ?_|refine wU ?_|refine wV ?_|refine wW ?_|refine wX ?_)
          refine Ops.cmp rfl rfl rfl (fun hc4 => ?_) (fun hc4 => ?_)
          · repeat' (first|refine wA ?_|refine wB ?_|refine wH ?_|refine wI ?_|refine wJ ?_|refine wC ?_|refine wD ?_|refine wE ?_|refine wF ?_|refine wG ?_|refine wK ?_|refine wL ?_|refine wM ?_|refine wN ?_|refine wO ?_|refine wP ?_|refine wQ ?_|refine wR ?_|refine wS ?_|refine wT ?_|refine wU ?_|refine wV ?_|refine wW ?_|refine wX ?_)
            refine Run.ret ⟨.inl rfl, ResK.tmp rfl (by conv => lhs; whnf) (ResK.nil ?_)⟩
            exact ⟨by rw [dec_f (fun h => by have := (h.2 i a ha').2 b (by omega) hb'; omega)]; rfl, rfl⟩
          · repeat' (first|refine wA ?_|refine wB ?_|refine wH ?_|refine wI ?_|refine wJ ?_|refine wC ?_|refine wD ?_|refine wE ?_|refine wF ?_|refine wG ?_|refine wK ?_|refine wL ?_|refine wM ?_|refine wN ?_|refine wO ?_|refine wP ?_|refine wQ ?_|refine wR ?_|refine wS ?_|refine wT ?_|refine wU ?_|refine wV ?_|refine wW ?_|refine wX ?_)
            refine ⟨i + 1, by dsimp only; omega, rfl, rfl, by dsimp only; exact (by repeat (first | exact Wk.jk | refine Wk.up rfl ?_)), ?_⟩
            refine ⟨by omega, fun j c hj hc' => ?_⟩
            by_cases e : j = i
            · subst e
              rw [ha'] at hc'; cases hc'
              refine ⟨of_dec_t hc2, fun d _ hd => ?_⟩
              rw [hb'] at hd; cases hd; omega
            · exact hx j c (by omega) hc'
        · repeat' (first|refine wA ?_|refine wB ?_|refine wH ?_|refine wI ?_|refine wJ ?_|refine wC ?_|refine wD ?_|refine wE ?_|refine wF ?_|refine wG ?_|refine wK ?_|refine wL ?_|refine wM ?_|refine wN ?_|refine wO ?_|refine wP ?_|refine wQ ?_|refine wR ?_|refine wS ?_|refine wT ?_|refine wU ?_|refine wV ?_|refine wW ?_|refine wX ?_)
          refine ⟨i + 1, by dsimp only; omega, rfl, rfl, by dsimp only; exact (by repeat (first | exact Wk.jk | refine Wk.up rfl ?_)), ?_⟩
          refine ⟨by omega, fun j c hj hc' => ?_⟩
          by_cases e : j = i
          · subst e
            rw [ha'] at hc'; cases hc'
            exact ⟨of_dec_t hc2, fun d h0 hd => by omega⟩
          · exact hx j c (by omega) hc'
      · repeat' (first|refine wA ?_|refine wB ?_|refine wH ?_|refine wI ?_|refine wJ ?_|refine wC ?_|refine wD ?_|refine wE ?_|refine wF ?_|refine wG ?_|refine wK ?_|refine wL ?_|refine wM ?_|refine wN ?_|refine wO ?_|refine wP ?_|refine wQ ?_|refine wR ?_|refine wS ?_|refine wT ?_|refine wU ?_|refine wV ?_|refine wW ?_|refine wX ?_)
        refine Run.ret ⟨.inl rfl, ResK.tmp rfl (by conv => lhs; whnf) (ResK.nil ?_)⟩
        exact ⟨by rw [dec_f (fun h => of_dec_f hc2 (h.2 i a ha').1)]; rfl, rfl⟩
    · repeat' (first|refine wA ?_|refine wB ?_|refine wH ?_|refine wI ?_|refine wJ ?_|refine wC ?_|refine wD ?_|refine wE ?_|refine wF ?_|refine wG ?_|refine wK ?_|refine wL ?_|refine wM ?_|refine wN ?_|refine wO ?_|refine wP ?_|refine wQ ?_|refine wR ?_|refine wS ?_|refine wT ?_|refine wU ?_|refine wV ?_|refine wW ?_|refine wX ?_)
      refine Run.ret ⟨.inl rfl, ResK.tmp rfl (by conv => lhs; whnf) (ResK.nil ?_)⟩
      refine ⟨?_, rfl⟩
      rw [dec_t ⟨by omega, fun j a hj => hx j a (by have := (List.getElem?_eq_some_iff.1 hj).1; omega) hj⟩]; rfl

end Go.Proofs.Ytefmjpbmdoebaaa

/- Finding in lists; copies; patterns of a tuple, by the program and by the reference. -/
set_option linter.unusedVariables false
namespace Go.Proofs.Ytefmjpbmdoebaaa
open Go Go.RowKit

/-- Where the first one is, or -1. -/
def findI {α : Type} (p : α → Bool) : List α → Int
  | [] => -1
  | a :: t => if p a then 0 else if findI p t < 0 then -1 else findI p t + 1

theorem findI_hit {α : Type} {p : α → Bool} : ∀ {l : List α} {i : Nat} {a : α}, l[i]? = some a → p a = true → (∀ b ∈ l.take i, p b = false) → findI p l = i
  | [], i, a, h, _, _ => by simp at h
  | x :: t, 0, a, h, hp, _ => by simp at h; subst h; simp [findI, hp]
  | x :: t, i + 1, a, h, hp, hn => by
    have h1 : p x = false := hn x (by simp)
    have h2 := findI_hit (l := t) (i := i) (a := a) (by simpa using h) hp fun b hb => hn b (by simp [hb])
    simp only [findI, h1, h2]
    rw [if_neg (by simp), if_neg (by omega)]; omega
theorem findI_miss {α : Type} {p : α → Bool} : ∀ {l : List α}, (∀ b ∈ l, p b = false) → findI p l = -1
  | [], _ => rfl
  | x :: t, hn => by
    have h2 := findI_miss (l := t) fun b hb => hn b (by simp [hb])
    simp only [findI, hn x (by simp), h2]; rfl
theorem findI_nonneg {α : Type} {p : α → Bool} : ∀ {l : List α}, 0 ≤ findI p l ↔ ∃ b ∈ l, p b = true
  | [] => by simp [findI]
  | x :: t => by
    have ih := findI_nonneg (p := p) (l := t)
    simp only [findI]
    by_cases h : p x = true
    · simp [h]
    · rw [if_neg h]
      by_cases h2 : findI p t < 0
      · rw [if_pos h2]
        have h3 : ¬ ∃ b ∈ t, p b = true := fun h3 => by have := ih.2 h3; omega
        constructor
        · intro h4; omega
        · rintro ⟨b, hb, hp⟩
          rcases List.mem_cons.1 hb with rfl | hb
          · exact absurd hp h
          · exact absurd ⟨b, hb, hp⟩ h3
      · rw [if_neg h2]
        obtain ⟨b, hb, hp⟩ := ih.1 (by omega)
        exact ⟨fun _ => ⟨b, by simp [hb], hp⟩, fun _ => by omega⟩
theorem findI_lt {α : Type} {p : α → Bool} : ∀ {l : List α}, findI p l < l.length
  | [] => by simp [findI]
  | x :: t => by
    have ih := findI_lt (p := p) (l := t)
    simp only [findI, List.length_cons]
    split
    · omega
    · split <;> omega
theorem findI_ge {α : Type} {p : α → Bool} : ∀ {l : List α}, -1 ≤ findI p l
  | [] => by simp [findI]
  | x :: t => by
    simp only [findI]
    split
    · omega
    · split <;> omega

theorem IndexFuncI_ok {H : Hp} {v : Value} {l : List Int} {g : FuncId} {first caps : Array Value} {p : Int → Bool} (h : Sl cI H v l) (hf : ∀ x ∈ l, acall Try.prog g (first.toList ++ [.int .i64 x] ++ caps.toList) H (.bool (p x)) H) :
    acall Try.prog 105 [v, .func (.func g) first caps] H (.int .i64 (findI p l)) H := by
  have hmx := h.max
  simp only [maxLen] at hmx
  refine CallK.eq (CallK.enter Try.func105 rfl rfl Try.ntmps105 Try.results105 rfl ?_)
  repeat' (first|refine wA ?_|refine wB ?_|refine wH ?_|refine wI ?_|refine wJ ?_|refine wC ?_|refine wD ?_|refine wE ?_|refine wF ?_|refine wG ?_|refine wK ?_|refine wL ?_|refine wM ?_|refine wN ?_|refine wO ?_|refine wP ?_|refine wQ ?_|refine wR ?_|refine wS ?_|refine wT ?_|refine wU ?_|refine wV ?_|refine wW ?_|refine wX ?_)
  refine Run.loopW (fun i => l.length - i) (fun (i : Nat) => up (up (up (up (up jk 0 v) 1 (.func (.func g) first caps)) 6 v) 7 (.int .i64 l.length)) 8 (.int .i64 (i : Int))) (fun _ => H) (fun i => i ≤ l.length ∧ ∀ b ∈ l.take i, p b = false) 0 rfl (by repeat (first | exact Wk.jk | refine Wk.up rfl ?_)) ⟨by omega, by simp⟩ ?_
  rintro i ⟨hi, hx⟩
  repeat' (first|refine wA ?_|refine wB ?_|refine wH ?_|refine wI ?_|refine wJ ?_|refine wC ?_|refine wD ?_|refine wE ?_|refine wF ?_|refine wG ?_|refine wK ?_|refine wL ?_|refine wM ?_|refine wN ?_|refine wO ?_|refine wP ?_|refine wQ ?_|refine wR ?_|refine wS ?_|refine wT ?_|refine wU ?_|refine wV ?_|refine wW ?_|refine wX ?_)
  refine Ops.cmp rfl rfl rfl (fun hc => ?_) (fun hc => ?_)
  · repeat' (first|refine wA ?_|refine wB ?_|refine wH ?_|refine wI ?_|refine wJ ?_|refine wC ?_|refine wD ?_|refine wE ?_|refine wF ?_|refine wG ?_|refine wK ?_|refine wL ?_|refine wM ?_|refine wN ?_|refine wO ?_|refine wP ?_|refine wQ ?_|refine wR ?_|refine wS ?_|refine wT ?_|refine wU ?_|refine wV ?_|refine wW ?_|refine wX ?_)
    refine Ops.idxI h rfl (by omega) (by omega) (by kernel_rfl) (by kernel_rfl) fun pz a ha => ?_
    have ha' : l[i]? = some a := ha
    refine Ops.callVB rfl (hf a (List.mem_of_getElem? ha')) (fun hc2 => ?_) (fun hc2 => ?_)
    · repeat' (first|refine wA ?_|refine wB ?_|refine wH ?_|refine wI ?_|refine wJ ?_|refine wC ?_|refine wD ?_|refine wE ?_|refine wF ?_|refine wG ?_|refine wK ?_|refine wL ?_|refine wM ?_|refine wN ?_|refine wO ?_|refine wP ?_|refine wQ ?_|refine wR ?_|refine wS ?_|refine wT ?_|refine wU ?_|refine wV ?_|refine wW ?_|refine wX ?_)
      refine Run.ret ⟨.inl rfl, ResK.tmp rfl (by conv => lhs; whnf) (ResK.nil ?_)⟩
      exact ⟨by rw [findI_hit ha' hc2 hx]; rfl, rfl⟩
    · repeat' (first|refine wA ?_|refine wB ?_|refine wH ?_|refine wI ?_|refine wJ ?_|refine wC ?_|refine wD ?_|refine wE ?_|refine wF ?_|refine wG ?_|refine wK ?_|refine wL ?_|refine wM ?_|refine wN ?_|refine wO ?_|refine wP ?_|refine wQ ?_|refine wR ?_|refine wS ?_|refine wT ?_|refine wU ?_|refine wV ?_|refine wW ?_|refine wX ?_)
      refine ⟨i + 1, by dsimp only; omega, rfl, rfl, by dsimp only; exact (by repeat (first | exact Wk.jk | refine Wk.up rfl ?_)), ?_⟩
      refine ⟨by omega, fun b hb => ?_⟩
      rw [take_snoc ha'] at hb
      rcases List.mem_append.1 hb with h1 | h1
      · exact hx b h1
      · obtain rfl := List.mem_singleton.1 h1
        exact hc2
  · repeat' (first|refine wA ?_|refine wB ?_|refine wH ?_|refine wI ?_|refine wJ ?_|refine wC ?_|refine wD ?_|refine wE ?_|refine wF ?_|refine wG ?_|refine wK ?_|refine wL ?_|refine wM ?_|refine wN ?_|refine wO ?_|refine wP ?_|refine wQ ?_|refine wR ?_|refine wS ?_|refine wT ?_|refine wU ?_|refine wV ?_|refine wW ?_|refine wX ?_)
    rw [take_end (by omega)] at hx
    refine Run.ret ⟨.inl rfl, ResK.tmp rfl (by conv => lhs; whnf) (ResK.nil ?_)⟩
    exact ⟨by rw [findI_miss hx]; rfl, rfl⟩

theorem ContainsFuncI_ok {H : Hp} {v : Value} {l : List Int} {g : FuncId} {first caps : Array Value} {p : Int → Bool} (h : Sl cI H v l) (hf : ∀ x ∈ l, acall Try.prog g (first.toList ++ [.int .i64 x] ++ caps.toList) H (.bool (p x)) H) :
    acall Try.prog 89 [v, .func (.func g) first caps] H (.bool (l.any p)) H := by
  refine CallK.eq (CallK.enter Try.func89 rfl rfl Try.ntmps89 Try.results89 rfl ?_)
  repeat' (first|refine wA ?_|refine wB ?_|refine wH ?_|refine wI ?_|refine wJ ?_|refine wC ?_|refine wD ?_|refine wE ?_|refine wF ?_|refine wG ?_|refine wK ?_|refine wL ?_|refine wM ?_|refine wN ?_|refine wO ?_|refine wP ?_|refine wQ ?_|refine wR ?_|refine wS ?_|refine wT ?_|refine wU ?_|refine wV ?_|refine wW ?_|refine wX ?_)
  refine Ops.callE (IndexFuncI_ok h hf) ?_
  refine Ops.cmp rfl rfl rfl (fun hc => ?_) (fun hc => ?_)
  · repeat' (first|refine wA ?_|refine wB ?_|refine wH ?_|refine wI ?_|refine wJ ?_|refine wC ?_|refine wD ?_|refine wE ?_|refine wF ?_|refine wG ?_|refine wK ?_|refine wL ?_|refine wM ?_|refine wN ?_|refine wO ?_|refine wP ?_|refine wQ ?_|refine wR ?_|refine wS ?_|refine wT ?_|refine wU ?_|refine wV ?_|refine wW ?_|refine wX ?_)
    refine Run.ret ⟨.inl rfl, ResK.tmp rfl (by conv => lhs; whnf) (ResK.nil ?_)⟩
    exact ⟨by rw [List.any_eq_true.2 (findI_nonneg.1 hc)]; rfl, rfl⟩
  · repeat' (first|refine wA ?_|refine wB ?_|refine wH ?_|refine wI ?_|refine wJ ?_|refine wC ?_|refine wD ?_|refine wE ?_|refine wF ?_|refine wG ?_|refine wK ?_|refine wL ?_|refine wM ?_|refine wN ?_|refine wO ?_|refine wP ?_|refine wQ ?_|refine wR ?_|refine wS ?_|refine wT ?_|refine wU ?_|refine wV ?_|refine wW ?_|refine wX ?_)
    refine Run.ret ⟨.inl rfl, ResK.tmp rfl (by conv => lhs; whnf) (ResK.nil ?_)⟩
    have : l.any p = false := by
      rw [← Bool.not_eq_true, List.any_eq_true]
      exact fun h2 => hc (findI_nonneg.2 h2)
    exact ⟨by rw [this]; rfl, rfl⟩

theorem notAtom_ok {H : Hp} {x : Int} : acall Try.prog 90 [.int .i64 x] H (.bool (!dec (isAtomP x))) H := by
  refine CallK.eq (CallK.enter Try.func90 rfl rfl Try.ntmps90 Try.results90 rfl ?_)
  repeat' (first|refine wA ?_|refine wB ?_|refine wH ?_|refine wI ?_|refine wJ ?_|refine wC ?_|refine wD ?_|refine wE ?_|refine wF ?_|refine wG ?_|refine wK ?_|refine wL ?_|refine wM ?_|refine wN ?_|refine wO ?_|refine wP ?_|refine wQ ?_|refine wR ?_|refine wS ?_|refine wT ?_|refine wU ?_|refine wV ?_|refine wW ?_|refine wX ?_)
  refine Ops.callB isAtom_ok (fun hc => ?_) (fun hc => ?_)
  · repeat' (first|refine wA ?_|refine wB ?_|refine wH ?_|refine wI ?_|refine wJ ?_|refine wC ?_|refine wD ?_|refine wE ?_|refine wF ?_|refine wG ?_|refine wK ?_|refine wL ?_|refine wM ?_|refine wN ?_|refine wO ?_|refine wP ?_|refine wQ ?_|refine wR ?_|refine wS ?_|refine wT ?_|refine wU ?_|refine wV ?_|refine wW ?_|refine wX ?_)
    refine Run.ret ⟨.inl rfl, ResK.tmp rfl (by conv => lhs; whnf) (ResK.nil ?_)⟩
    exact ⟨by rw [hc]; rfl, rfl⟩
  · repeat' (first|refine wA ?_|refine wB ?_|refine wH ?_|refine wI ?_|refine wJ ?_|refine wC ?_|refine wD ?_|refine wE ?_|refine wF ?_|refine wG ?_|refine wK ?_|refine wL ?_|refine wM ?_|refine wN ?_|refine wO ?_|refine wP ?_|refine wQ ?_|refine wR ?_|refine wS ?_|refine wT ?_|refine wU ?_|refine wV ?_|refine wW ?_|refine wX ?_)
    refine Run.ret ⟨.inl rfl, ResK.tmp rfl (by conv => lhs; whnf) (ResK.nil ?_)⟩
    exact ⟨by rw [hc]; rfl, rfl⟩

theorem isTuple_ok {H : Hp} {v : Value} {l : List Int} (h : Sl cI H v l) : acall Try.prog 65 [v] H (.bool (dec (isTup l))) H := by
  refine CallK.eq (CallK.enter Try.func65 rfl rfl Try.ntmps65 Try.results65 rfl ?_)
  repeat' (first|refine wA ?_|refine wB ?_|refine wH ?_|refine wI ?_|refine wJ ?_|refine wC ?_|refine wD ?_|refine wE ?_|refine wF ?_|refine wG ?_|refine wK ?_|refine wL ?_|refine wM ?_|refine wN ?_|refine wO ?_|refine wP ?_|refine wQ ?_|refine wR ?_|refine wS ?_|refine wT ?_|refine wU ?_|refine wV ?_|refine wW ?_|refine wX ?_)
  refine Ops.cmp rfl rfl rfl (fun hc => ?_) (fun hc => ?_)
  · repeat' (first|refine wA ?_|refine wB ?_|refine wH ?_|refine wI ?_|refine wJ ?_|refine wC ?_|refine wD ?_|refine wE ?_|refine wF ?_|refine wG ?_|refine wK ?_|refine wL ?_|refine wM ?_|refine wN ?_|refine wO ?_|refine wP ?_|refine wQ ?_|refine wR ?_|refine wS ?_|refine wT ?_|refine wU ?_|refine wV ?_|refine wW ?_|refine wX ?_)
    refine Ops.callB (ContainsFuncI_ok (first := #[]) (caps := #[]) (p := fun x => !dec (isAtomP x)) h (fun x _ => notAtom_ok)) (fun hc2 => ?_) (fun hc2 => ?_)
    · repeat' (first|refine wA ?_|refine wB ?_|refine wH ?_|refine wI ?_|refine wJ ?_|refine wC ?_|refine wD ?_|refine wE ?_|refine wF ?_|refine wG ?_|refine wK ?_|refine wL ?_|refine wM ?_|refine wN ?_|refine wO ?_|refine wP ?_|refine wQ ?_|refine wR ?_|refine wS ?_|refine wT ?_|refine wU ?_|refine wV ?_|refine wW ?_|refine wX ?_)
      refine Run.ret ⟨.inl rfl, ResK.tmp rfl (by conv => lhs; whnf) (ResK.nil ?_)⟩
      refine ⟨?_, rfl⟩
      rw [dec_f]; rfl
      intro h2
      obtain ⟨a, ha, hp⟩ := List.any_eq_true.1 hc2
      rw [dec_t (h2.2 a ha)] at hp; cases hp
    · repeat' (first|refine wA ?_|refine wB ?_|refine wH ?_|refine wI ?_|refine wJ ?_|refine wC ?_|refine wD ?_|refine wE ?_|refine wF ?_|refine wG ?_|refine wK ?_|refine wL ?_|refine wM ?_|refine wN ?_|refine wO ?_|refine wP ?_|refine wQ ?_|refine wR ?_|refine wS ?_|refine wT ?_|refine wU ?_|refine wV ?_|refine wW ?_|refine wX ?_)
      refine Run.ret ⟨.inl rfl, ResK.tmp rfl (by conv => lhs; whnf) (ResK.nil ?_)⟩
      refine ⟨?_, rfl⟩
      rw [dec_t]; rfl
      refine ⟨by omega, fun a ha => ?_⟩
      rw [← Bool.not_eq_true, List.any_eq_true] at hc2
      refine Classical.byContradiction fun hn => hc2 ⟨a, ha, by rw [dec_f hn]; rfl⟩
  · repeat' (first|refine wA ?_|refine wB ?_|refine wH ?_|refine wI ?_|refine wJ ?_|refine wC ?_|refine wD ?_|refine wE ?_|refine wF ?_|refine wG ?_|refine wK ?_|refine wL ?_|refine wM ?_|refine wN ?_|refine wO ?_|refine wP ?_|refine wQ ?_|refine wR ?_|refine wS ?_|refine wT ?_|refine wU ?_|refine wV ?_|refine wW ?_|refine wX ?_)
    refine Run.ret ⟨.inl rfl, ResK.tmp rfl (by conv => lhs; whnf) (ResK.nil ?_)⟩
    exact ⟨by rw [dec_f (fun h => by have := h.1; omega)]; rfl, rfl⟩

theorem IndexI_ok {H : Hp} {v : Value} {l : List Int} {x : Int} (h : Sl cI H v l) : acall Try.prog 91 [v, .int .i64 x] H (.int .i64 (findI (fun y => x == y) l)) H := by
  have hmx := h.max
  simp only [maxLen] at hmx
  refine CallK.eq (CallK.enter Try.func91 rfl rfl Try.ntmps91 Try.results91 rfl ?_)
  repeat' (first|refine wA ?_|refine wB ?_|refine wH ?_|refine wI ?_|refine wJ ?_|refine wC ?_|refine wD ?_|refine wE ?_|refine wF ?_|refine wG ?_|refine wK ?_|refine wL ?_|refine wM ?_|refine wN ?_|refine wO ?_|refine wP ?_|refine wQ ?_|refine wR ?_|refine wS ?_|refine wT ?_|refine wU ?_|refine wV ?_|refine wW ?_|refine wX ?_)
  refine Run.loopW (fun i => l.length - i) (fun (i : Nat) => up (up (up (up (up jk 0 v) 1 (.int .i64 x)) 6 v) 7 (.int .i64 l.length)) 8 (.int .i64 (i : Int))) (fun _ => H) (fun i => i ≤ l.length ∧ ∀ b ∈ l.take i, (x == b) = false) 0 rfl (by repeat (first | exact Wk.jk | refine Wk.up rfl ?_)) ⟨by omega, by simp⟩ ?_
  rintro i ⟨hi, hx⟩
  repeat' (first|refine wA ?_|refine wB ?_|refine wH ?_|refine wI ?_|refine wJ ?_|refine wC ?_|refine wD ?_|refine wE ?_|refine wF ?_|refine wG ?_|refine wK ?_|refine wL ?_|refine wM ?_|refine wN ?_|refine wO ?_|refine wP ?_|refine wQ ?_|refine wR ?_|refine wS ?_|refine wT ?_|refine wU ?_|refine wV ?_|refine wW ?_|refine wX ?_)
  refine Ops.cmp rfl rfl rfl (fun hc => ?_) (fun hc => ?_)
  · repeat' (first|refine wA ?_|refine wB ?_|refine wH ?_|refine wI ?_|refine wJ ?_|refine wC ?_|refine wD ?_|refine wE ?_|refine wF ?_|refine wG ?_|refine wK ?_|refine wL ?_|refine wM ?_|refine wN ?_|refine wO ?_|refine wP ?_|refine wQ ?_|refine wR ?_|refine wS ?_|refine wT ?_|refine wU ?_|refine wV ?_|refine wW ?_|refine wX ?_)
    refine Ops.idxI h rfl (by omega) (by omega) (by kernel_rfl) (by kernel_rfl) fun pz a ha => ?_
    have ha' : l[i]? = some a := ha
    refine Ops.cmp rfl rfl rfl (fun hc2 => ?_) (fun hc2 => ?_)
    · repeat' (first|refine wA ?_|refine wB ?_|refine wH ?_|refine wI ?_|refine wJ ?_|refine wC ?_|refine wD ?_|refine wE ?_|refine wF ?_|refine wG ?_|refine wK ?_|refine wL ?_|refine wM ?_|refine wN ?_|refine wO ?_|refine wP ?_|refine wQ ?_|refine wR ?_|refine wS ?_|refine wT ?_|refine wU ?_|refine wV ?_|refine wW ?_|refine wX ?_)
      refine Run.ret ⟨.inl rfl, ResK.tmp rfl (by conv => lhs; whnf) (ResK.nil ?_)⟩
      exact ⟨by rw [findI_hit (p := fun y => x == y) ha' (by simp [hc2]) hx]; rfl, rfl⟩
    · repeat' (first|refine wA ?_|refine wB ?_|refine wH ?_|refine wI ?_|refine wJ ?_|refine wC ?_|refine wD ?_|refine wE ?_|refine wF ?_|refine wG ?_|refine wK ?_|refine wL ?_|refine wM ?_|refine wN ?_|refine wO ?_|refine wP ?_|refine wQ ?_|refine wR ?_|refine wS ?_|refine wT ?_|refine wU ?_|refine wV ?_|refine wW ?_|refine wX ?_)
      refine ⟨i + 1, by dsimp only; omega, rfl, rfl, by dsimp only; exact (by repeat (first | exact Wk.jk | refine Wk.up rfl ?_)), ?_⟩
      refine ⟨by omega, fun b hb => ?_⟩
      rw [take_snoc ha'] at hb
      rcases List.mem_append.1 hb with h1 | h1
      · exact hx b h1
      · obtain rfl := List.mem_singleton.1 h1
        simpa using hc2
  · repeat' (first|refine wA ?_|refine wB ?_|refine wH ?_|refine wI ?_|refine wJ ?_|refine wC ?_|refine wD ?_|refine wE ?_|refine wF ?_|refine wG ?_|refine wK ?_|refine wL ?_|refine wM ?_|refine wN ?_|refine wO ?_|refine wP ?_|refine wQ ?_|refine wR ?_|refine wS ?_|refine wT ?_|refine wU ?_|refine wV ?_|refine wW ?_|refine wX ?_)
    rw [take_end (by omega)] at hx
    refine Run.ret ⟨.inl rfl, ResK.tmp rfl (by conv => lhs; whnf) (ResK.nil ?_)⟩
    exact ⟨by rw [findI_miss (p := fun y => x == y) hx]; rfl, rfl⟩

theorem toIntS_ok {H : Hp} {v : Value} {l : List Int} (h : Sl cI H v l) (hl : l.length ≤ 1048576) : CallK Try.prog 25 [v] H (fun r H' => Calm H H' ∧ Ac cI 3 H.nxt H' r l) := by
  refine (CallK.enter Try.func25 rfl rfl Try.ntmps25 Try.results25 rfl ?_)
  repeat' (first|refine wA ?_|refine wB ?_|refine wH ?_|refine wI ?_|refine wJ ?_|refine wC ?_|refine wD ?_|refine wE ?_|refine wF ?_|refine wG ?_|refine wK ?_|refine wL ?_|refine wM ?_|refine wN ?_|refine wO ?_|refine wP ?_|refine wQ ?_|refine wR ?_|refine wS ?_|refine wT ?_|refine wU ?_|refine wV ?_|refine wW ?_|refine wX ?_)
  refine Ops.make (q := l.length) (a := (0 : Int)) (z0 := .int .i64 0) cI 3 H.nxt (by kernel_rfl) (fun _ => rfl) rfl rfl (by kernel_rfl) (by kernel_rfl) (Nat.le_refl _) (by show l.length * 1 ≤ _; omega) (by omega) fun u H1 a1 c1 p1 => ?_
  repeat' (first|refine wA ?_|refine wB ?_|refine wH ?_|refine wI ?_|refine wJ ?_|refine wC ?_|refine wD ?_|refine wE ?_|refine wF ?_|refine wG ?_|refine wK ?_|refine wL ?_|refine wM ?_|refine wN ?_|refine wO ?_|refine wP ?_|refine wQ ?_|refine wR ?_|refine wS ?_|refine wT ?_|refine wU ?_|refine wV ?_|refine wW ?_|refine wX ?_)
  refine Run.loopW (fun (a : Nat × Hp × List Int) => l.length - a.1) (fun a => up (up (up jk 0 v) 3 u) 4 (.int .i64 (a.1 : Int))) (fun a => a.2.1)
    (fun a => a.1 ≤ l.length ∧ Calm H a.2.1 ∧ Ac cI 3 H.nxt a.2.1 u a.2.2 ∧ a.2.2.length = l.length ∧ a.2.2.take a.1 = l.take a.1) (0, H1, List.replicate l.length 0) rfl (by repeat (first | exact Wk.jk | refine Wk.up rfl ?_)) ⟨by dsimp only; omega, c1, a1, by simp, by simp⟩ ?_
  rintro ⟨i, H2, m⟩ ⟨hi, c2, a2, hm, hx⟩
  dsimp only at hi c2 a2 hm hx
  dsimp only
  have s2 := h.calm c2
  repeat' (first|refine wA ?_|refine wB ?_|refine wH ?_|refine wI ?_|refine wJ ?_|refine wC ?_|refine wD ?_|refine wE ?_|refine wF ?_|refine wG ?_|refine wK ?_|refine wL ?_|refine wM ?_|refine wN ?_|refine wO ?_|refine wP ?_|refine wQ ?_|refine wR ?_|refine wS ?_|refine wT ?_|refine wU ?_|refine wV ?_|refine wW ?_|refine wX ?_)
  refine Ops.cmp rfl rfl rfl (fun hc => ?_) (fun hc => ?_)
  · repeat' (first|refine wA ?_|refine wB ?_|refine wH ?_|refine wI ?_|refine wJ ?_|refine wC ?_|refine wD ?_|refine wE ?_|refine wF ?_|refine wG ?_|refine wK ?_|refine wL ?_|refine wM ?_|refine wN ?_|refine wO ?_|refine wP ?_|refine wQ ?_|refine wR ?_|refine wS ?_|refine wT ?_|refine wU ?_|refine wV ?_|refine wW ?_|refine wX ?_)
    refine Ops.idxI s2 rfl (by omega) (by omega) (by kernel_rfl) (by kernel_rfl) fun pz a ha => ?_
    have ha' : l[i]? = some a := ha
    have hne : m ≠ [] := fun e => by have h5 : m.length = 0 := (by rw [e]; rfl); omega
    obtain ⟨r, hqr, hr⟩ := a2.rt hne
    refine Ops.set (r := r) (a := a) a2 hr rfl (by omega) (by omega) rfl (by simp) (by kernel_rfl) (by kernel_rfl) (fun _ _ _ _ _ h => h) fun p H3 hm3 a3 => ?_
    repeat' (first|refine wA ?_|refine wB ?_|refine wH ?_|refine wI ?_|refine wJ ?_|refine wC ?_|refine wD ?_|refine wE ?_|refine wF ?_|refine wG ?_|refine wK ?_|refine wL ?_|refine wM ?_|refine wN ?_|refine wO ?_|refine wP ?_|refine wQ ?_|refine wR ?_|refine wS ?_|refine wT ?_|refine wU ?_|refine wV ?_|refine wW ?_|refine wX ?_)
    refine ⟨(i + 1, H3, m.set i a), by dsimp only; omega, rfl, rfl, by dsimp only; exact (by repeat (first | exact Wk.jk | refine Wk.up rfl ?_)), ?_⟩
    refine ⟨by dsimp only; omega, hm3.calm c2 hqr, a3, by simp [hm], ?_⟩
    show (m.set i a).take (i + 1) = l.take (i + 1)
    rw [set_take (by omega), hx, take_snoc ha']
  · repeat' (first|refine wA ?_|refine wB ?_|refine wH ?_|refine wI ?_|refine wJ ?_|refine wC ?_|refine wD ?_|refine wE ?_|refine wF ?_|refine wG ?_|refine wK ?_|refine wL ?_|refine wM ?_|refine wN ?_|refine wO ?_|refine wP ?_|refine wQ ?_|refine wR ?_|refine wS ?_|refine wT ?_|refine wU ?_|refine wV ?_|refine wW ?_|refine wX ?_)
    refine Run.ret ⟨.inl rfl, ResK.tmp rfl (by conv => lhs; whnf) (ResK.nil ?_)⟩
    rw [take_end (by omega), take_end (by omega)] at hx
    subst hx
    exact ⟨c2, a2⟩

end Go.Proofs.Ytefmjpbmdoebaaa

/- Patterns of a tuple: by the reference and by the program. -/
set_option linter.unusedVariables false
namespace Go.Proofs.Ytefmjpbmdoebaaa
open Go Go.RowKit

def lastIdx (a : Int) (l : List Int) : Int := (l.zipIdx).foldl (fun r p => if p.1 = a then (p.2 : Int) else r) (-1)
theorem lastIdx_snoc (a b : Int) (l : List Int) : lastIdx a (l ++ [b]) = if b = a then (l.length : Int) else lastIdx a l := by
  unfold lastIdx; simp [List.zipIdx_append]
def patStep (s : List Int × List Int) (a : Int) : List Int × List Int :=
  if lastIdx a s.1 < 0 then (s.1 ++ [a], s.2 ++ [(s.1.length : Int)]) else (s.1, s.2 ++ [lastIdx a s.1])
def patSt (cs tup : List Int) : List Int × List Int := tup.foldl patStep (cs, [])

theorem patSt_snoc (cs tup : List Int) (a : Int) : patSt cs (tup ++ [a]) = patStep (patSt cs tup) a := by simp [patSt]
theorem patStep_len (s : List Int × List Int) (a : Int) : (patStep s a).1.length ≤ s.1.length + 1 ∧ (patStep s a).2.length = s.2.length + 1 := by
  unfold patStep; split <;> simp
theorem patSt_len (cs : List Int) : ∀ tup : List Int, (patSt cs tup).1.length ≤ cs.length + tup.length ∧ (patSt cs tup).2.length = tup.length := by
  intro tup
  have key : ∀ (tup : List Int) (s : List Int × List Int), (tup.foldl patStep s).1.length ≤ s.1.length + tup.length ∧ (tup.foldl patStep s).2.length = s.2.length + tup.length := by
    intro tup
    induction tup with
    | nil => intro s; simp
    | cons a l ih =>
      intro s
      have h1 := ih (patStep s a)
      have h2 := patStep_len s a
      simp only [List.foldl_cons, List.length_cons]; omega
  have := key tup (cs, [])
  simpa [patSt] using this

theorem l6Pattern_ok {H : Hp} {v w : Value} {cs tup : List Int} (h : Sl cI H v cs) (h2 : Sl cI H w tup) (hl : cs.length + tup.length ≤ 4194304) :
    CallK Try.prog 63 [v, w] H (fun r H' => Calm H H' ∧ Ac cI 3 H.nxt H' r (patSt cs tup).2) := by
  have hmx := h.max
  have hmx2 := h2.max
  simp only [maxLen] at hmx hmx2
  refine (CallK.enter Try.func63 rfl rfl Try.ntmps63 Try.results63 rfl ?_)
  repeat' (first|refine wA ?_|refine wB ?_|refine wH ?_|refine wI ?_|refine wJ ?_|refine wC ?_|refine wD ?_|refine wE ?_|refine wF ?_|refine wG ?_|refine wK ?_|refine wL ?_|refine wM ?_|refine wN ?_|refine wO ?_|refine wP ?_|refine wQ ?_|refine wR ?_|refine wS ?_|refine wT ?_|refine wU ?_|refine wV ?_|refine wW ?_|refine wX ?_)
  refine Ops.lit0 cI 3 H.nxt (by kernel_rfl) (by kernel_rfl) (Nat.le_refl _) fun v5 H1 a5 c1 p1 => ?_
  repeat' (first|refine wA ?_|refine wB ?_|refine wH ?_|refine wI ?_|refine wJ ?_|refine wC ?_|refine wD ?_|refine wE ?_|refine wF ?_|refine wG ?_|refine wK ?_|refine wL ?_|refine wM ?_|refine wN ?_|refine wO ?_|refine wP ?_|refine wQ ?_|refine wR ?_|refine wS ?_|refine wT ?_|refine wU ?_|refine wV ?_|refine wW ?_|refine wX ?_)
  refine Ops.lit0 cI 3 H.nxt (by kernel_rfl) (by kernel_rfl) c1.1 fun v6 H2 a6 c2 p2 => ?_
  have p65 := p2 v5 a5.live
  have a5 := a5.calm c2
  repeat' (first|refine wA ?_|refine wB ?_|refine wH ?_|refine wI ?_|refine wJ ?_|refine wC ?_|refine wD ?_|refine wE ?_|refine wF ?_|refine wG ?_|refine wK ?_|refine wL ?_|refine wM ?_|refine wN ?_|refine wO ?_|refine wP ?_|refine wQ ?_|refine wR ?_|refine wS ?_|refine wT ?_|refine wU ?_|refine wV ?_|refine wW ?_|refine wX ?_)
  refine Ops.cat rfl rdI a6 ((h.calm c1).calm c2) (Nat.le_trans c1.1 c2.1) (by kernel_rfl) (by kernel_rfl) (by simp; omega) fun v6 H3 a6 g3 => ?_
  obtain ⟨a5, p56⟩ := g3.two rdI a5 p65
  have c3 := g3.calm H (Nat.le_refl _) (c1.trans c2)
  have s2 := h2.calm c3
  repeat' (first|refine wA ?_|refine wB ?_|refine wH ?_|refine wI ?_|refine wJ ?_|refine wC ?_|refine wD ?_|refine wE ?_|refine wF ?_|refine wG ?_|refine wK ?_|refine wL ?_|refine wM ?_|refine wN ?_|refine wO ?_|refine wP ?_|refine wQ ?_|refine wR ?_|refine wS ?_|refine wT ?_|refine wU ?_|refine wV ?_|refine wW ?_|refine wX ?_)
  refine Run.loopW (fun (a : Nat × Value × Value × Hp) => tup.length - a.1) (fun a => up (up (up (up (up jk 5 a.2.1) 6 a.2.2.1) 16 w) 17 (.int .i64 tup.length)) 18 (.int .i64 (a.1 : Int))) (fun a => a.2.2.2)
    (fun a => a.1 ≤ tup.length ∧ Calm H a.2.2.2 ∧ Ac cI 3 H.nxt a.2.2.2 a.2.1 (patSt cs (tup.take a.1)).2 ∧ Ac cI 3 H.nxt a.2.2.2 a.2.2.1 (patSt cs (tup.take a.1)).1 ∧ Ap a.2.1 a.2.2.1) (0, v5, v6, H3) rfl (by repeat (first | exact Wk.jk | refine Wk.up rfl ?_)) ⟨by omega, c3, by simpa [patSt] using a5, by simpa [patSt] using a6, p56⟩ ?_
  clear a5 a6 p56 g3 c1 p1 p2 p65 c2 c3 s2
  rintro ⟨i, v5, v6, H1⟩ ⟨hi, c1, a5, a6, p56⟩
  dsimp only at hi c1 a5 a6 p56
  dsimp only
  have s2 := h2.calm c1
  have len := patSt_len cs (tup.take i)
  rw [List.length_take] at len
  repeat' (first|refine wA ?_|refine wB ?_|refine wH ?_|refine wI ?_|refine wJ ?_|refine wC ?_|refine wD ?_|refine wE ?_|refine wF ?_|refine wG ?_|refine wK ?_|refine wL ?_|refine wM ?_|refine wN ?_|refine wO ?_|refine wP ?_|refine wQ ?_|refine wR ?_|refine wS ?_|refine wT ?_|refine wU ?_|refine wV ?_|refine wW ?_|refine wX ?_)
  refine Ops.cmp rfl rfl rfl (fun hc => ?_) (fun hc => ?_)
  · repeat' (first|refine wA ?_|refine wB ?_|refine wH ?_|refine wI ?_|refine wJ ?_|refine wC ?_|refine wD ?_|refine wE ?_|refine wF ?_|refine wG ?_|refine wK ?_|refine wL ?_|refine wM ?_|refine wN ?_|refine wO ?_|refine wP ?_|refine wQ ?_|refine wR ?_|refine wS ?_|refine wT ?_|refine wU ?_|refine wV ?_|refine wW ?_|refine wX ?_)
    refine Ops.idxI s2 rfl (by omega) (by omega) (by kernel_rfl) (by kernel_rfl) fun pz a ha => ?_
    have ha' : tup[i]? = some a := by simpa using ha
    repeat' (first|refine wA ?_|refine wB ?_|refine wH ?_|refine wI ?_|refine wJ ?_|refine wC ?_|refine wD ?_|refine wE ?_|refine wF ?_|refine wG ?_|refine wK ?_|refine wL ?_|refine wM ?_|refine wN ?_|refine wO ?_|refine wP ?_|refine wQ ?_|refine wR ?_|refine wS ?_|refine wT ?_|refine wU ?_|refine wV ?_|refine wW ?_|refine wX ?_)
    generalize hseen : (patSt cs (tup.take i)).1 = seen at a6 len
    have hml := a6.sl.max
    simp only [maxLen] at hml
    refine Run.loopW (fun (j : Nat) => seen.length - j) (fun j => up (up (up (up (up (up (up (up (up (up jk 5 v5) 6 v6) 16 w) 17 (.int .i64 tup.length)) 18 (.int .i64 (i : Int))) 8 (.int .i64 a)) 9 (.int .i64 (lastIdx a (seen.take j)))) 22 v6) 23 (.int .i64 seen.length)) 24 (.int .i64 (j : Int))) (fun _ => H1)
      (fun j => j ≤ seen.length) 0 rfl (by repeat (first | exact Wk.jk | refine Wk.up rfl ?_)) (by omega) ?_
    intro j hj
    repeat' (first|refine wA ?_|refine wB ?_|refine wH ?_|refine wI ?_|refine wJ ?_|refine wC ?_|refine wD ?_|refine wE ?_|refine wF ?_|refine wG ?_|refine wK ?_|refine wL ?_|refine wM ?_|refine wN ?_|refine wO ?_|refine wP ?_|refine wQ ?_|refine wR ?_|refine wS ?_|refine wT ?_|refine wU ?_|refine wV ?_|refine wW ?_|refine wX ?_)
    refine Ops.cmp rfl rfl rfl (fun hc2 => ?_) (fun hc2 => ?_)
    · repeat' (first|refine wA ?_|refine wB ?_|refine wH ?_|refine wI ?_|refine wJ ?_|refine wC ?_|refine wD ?_|refine wE ?_|refine wF ?_|refine wG ?_|refine wK ?_|refine wL ?_|refine wM ?_|refine wN ?_|refine wO ?_|refine wP ?_|refine wQ ?_|refine wR ?_|refine wS ?_|refine wT ?_|refine wU ?_|refine wV ?_|refine wW ?_|refine wX ?_)
      refine Ops.idxI a6.sl rfl (by omega) (by omega) (by kernel_rfl) (by kernel_rfl) fun pz b hb => ?_
      have hb' : seen[j]? = some b := by simpa using hb
      have hl1 := lastIdx_snoc a b (seen.take j)
      rw [← take_snoc hb'] at hl1
      repeat' (first|refine wA ?_|refine wB ?_|refine wH ?_|refine wI ?_|refine wJ ?_|refine wC ?_|refine wD ?_|refine wE ?_|refine wF ?_|refine wG ?_|refine wK ?_|refine wL ?_|refine wM ?_|refine wN ?_|refine wO ?_|refine wP ?_|refine wQ ?_|refine wR ?_|refine wS ?_|refine wT ?_|refine wU ?_|refine wV ?_|refine wW ?_|refine wX ?_)
      refine Ops.cmp rfl rfl rfl (fun hc3 => ?_) (fun hc3 => ?_)
      · repeat' (first|refine wA ?_|refine wB ?_|refine wH ?_|refine wI ?_|refine wJ ?_|refine wC ?_|refine wD ?_|refine wE ?_|refine wF ?_|refine wG ?_|refine wK ?_|refine wL ?_|refine wM ?_|refine wN ?_|refine wO ?_|refine wP ?_|refine wQ ?_|refine wR ?_|refine wS ?_|refine wT ?_|refine wU ?_|refine wV ?_|refine wW ?_|refine wX ?_)
        rw [if_pos hc3, List.length_take, Nat.min_eq_left hj] at hl1
        refine ⟨j + 1, by dsimp only; omega, rfl, rfl, by dsimp only; rw [hl1]; exact (by repeat (first | exact Wk.jk | refine Wk.up rfl ?_)), ?_⟩
        omega
      · repeat' (first|refine wA ?_|refine wB ?_|refine wH ?_|refine wI ?_|refine wJ ?_|refine wC ?_|refine wD ?_|refine wE ?_|refine wF ?_|refine wG ?_|refine wK ?_|refine wL ?_|refine wM ?_|refine wN ?_|refine wO ?_|refine wP ?_|refine wQ ?_|refine wR ?_|refine wS ?_|refine wT ?_|refine wU ?_|refine wV ?_|refine wW ?_|refine wX ?_)
        rw [if_neg hc3] at hl1
        refine ⟨j + 1, by dsimp only; omega, rfl, rfl, by dsimp only; rw [hl1]; exact (by repeat (first | exact Wk.jk | refine Wk.up rfl ?_)), ?_⟩
        omega
    · repeat' (first|refine wA ?_|refine wB ?_|refine wH ?_|refine wI ?_|refine wJ ?_|refine wC ?_|refine wD ?_|refine wE ?_|refine wF ?_|refine wG ?_|refine wK ?_|refine wL ?_|refine wM ?_|refine wN ?_|refine wO ?_|refine wP ?_|refine wQ ?_|refine wR ?_|refine wS ?_|refine wT ?_|refine wU ?_|refine wV ?_|refine wW ?_|refine wX ?_)
      have : seen.take j = seen := List.take_of_length_le (by omega)
      rw [this]
      have hstep : patSt cs (tup.take (i + 1)) = patStep (patSt cs (tup.take i)) a := by rw [take_snoc ha', patSt_snoc]
      have hs1 : (patSt cs (tup.take i)).1 = seen := hseen
      unfold patStep at hstep
      rw [hs1] at hstep
      refine Ops.cmp rfl rfl rfl (fun hc3 => ?_) (fun hc3 => ?_)
      · repeat' (first|refine wA ?_|refine wB ?_|refine wH ?_|refine wI ?_|refine wJ ?_|refine wC ?_|refine wD ?_|refine wE ?_|refine wF ?_|refine wG ?_|refine wK ?_|refine wL ?_|refine wM ?_|refine wN ?_|refine wO ?_|refine wP ?_|refine wQ ?_|refine wR ?_|refine wS ?_|refine wT ?_|refine wU ?_|refine wV ?_|refine wW ?_|refine wX ?_)
        rw [if_pos hc3] at hstep
        refine Ops.push rdI a6 rfl (by simp) c1.1 (by kernel_rfl) (by kernel_rfl) (by kernel_rfl) (by omega) (by decide) fun p v6' H2 a6 g2 => ?_
        obtain ⟨a5, p56⟩ := g2.two rdI a5 p56
        have c2 := g2.calm H (Nat.le_refl _) c1
        repeat' (first|refine wA ?_|refine wB ?_|refine wH ?_|refine wI ?_|refine wJ ?_|refine wC ?_|refine wD ?_|refine wE ?_|refine wF ?_|refine wG ?_|refine wK ?_|refine wL ?_|refine wM ?_|refine wN ?_|refine wO ?_|refine wP ?_|refine wQ ?_|refine wR ?_|refine wS ?_|refine wT ?_|refine wU ?_|refine wV ?_|refine wW ?_|refine wX ?_)
        refine Ops.push rdI a5 rfl (by simp) c2.1 (by kernel_rfl) (by kernel_rfl) (by kernel_rfl) (by omega) (by decide) fun p v5' H3 a5 g3 => ?_
        obtain ⟨a6, p65⟩ := g3.two rdI a6 p56.symm
        have c3 := g3.calm H (Nat.le_refl _) c2
        repeat' (first|refine wA ?_|refine wB ?_|refine wH ?_|refine wI ?_|refine wJ ?_|refine wC ?_|refine wD ?_|refine wE ?_|refine wF ?_|refine wG ?_|refine wK ?_|refine wL ?_|refine wM ?_|refine wN ?_|refine wO ?_|refine wP ?_|refine wQ ?_|refine wR ?_|refine wS ?_|refine wT ?_|refine wU ?_|refine wV ?_|refine wW ?_|refine wX ?_)
        refine ⟨(i + 1, v5', v6', H3), by dsimp only; omega, rfl, rfl, by dsimp only; exact (by repeat (first | exact Wk.jk | refine Wk.up rfl ?_)), ?_⟩
        refine ⟨by dsimp only; omega, c3, ?_, ?_, p65.symm⟩
        · show Ac _ _ _ _ _ (patSt cs (tup.take (i + 1))).2; rw [hstep]; exact a5
        · show Ac _ _ _ _ _ (patSt cs (tup.take (i + 1))).1; rw [hstep]; exact a6
      · repeat' (first|refine wA ?_|refine wB ?_|refine wH ?_|refine wI ?_|refine wJ ?_|refine wC ?_|refine wD ?_|refine wE ?_|refine wF ?_|refine wG ?_|refine wK ?_|refine wL ?_|refine wM ?_|refine wN ?_|refine wO ?_|refine wP ?_|refine wQ ?_|refine wR ?_|refine wS ?_|refine wT ?_|refine wU ?_|refine wV ?_|refine wW ?_|refine wX ?_)
        rw [if_neg hc3] at hstep
        refine Ops.push rdI a5 rfl (by simp) c1.1 (by kernel_rfl) (by kernel_rfl) (by kernel_rfl) (by omega) (by decide) fun p v5' H3 a5 g3 => ?_
        obtain ⟨a6, p65⟩ := g3.two rdI a6 p56.symm
        have c3 := g3.calm H (Nat.le_refl _) c1
        repeat' (first|refine wA ?_|refine wB ?_|refine wH ?_|refine wI ?_|refine wJ ?_|refine wC ?_|refine wD ?_|refine wE ?_|refine wF ?_|refine wG ?_|refine wK ?_|refine wL ?_|refine wM ?_|refine wN ?_|refine wO ?_|refine wP ?_|refine wQ ?_|refine wR ?_|refine wS ?_|refine wT ?_|refine wU ?_|refine wV ?_|refine wW ?_|refine wX ?_)
        refine ⟨(i + 1, v5', v6, H3), by dsimp only; omega, rfl, rfl, by dsimp only; exact (by repeat (first | exact Wk.jk | refine Wk.up rfl ?_)), ?_⟩
        refine ⟨by dsimp only; omega, c3, ?_, ?_, p65.symm⟩
        · show Ac _ _ _ _ _ (patSt cs (tup.take (i + 1))).2; rw [hstep]; exact a5
        · show Ac _ _ _ _ _ (patSt cs (tup.take (i + 1))).1; rw [hstep, ← hs1]; rw [hs1]; exact a6
  · repeat' (first|refine wA ?_|refine wB ?_|refine wH ?_|refine wI ?_|refine wJ ?_|refine wC ?_|refine wD ?_|refine wE ?_|refine wF ?_|refine wG ?_|refine wK ?_|refine wL ?_|refine wM ?_|refine wN ?_|refine wO ?_|refine wP ?_|refine wQ ?_|refine wR ?_|refine wS ?_|refine wT ?_|refine wU ?_|refine wV ?_|refine wW ?_|refine wX ?_)
    refine Run.ret ⟨.inl rfl, ResK.tmp rfl (by conv => lhs; whnf) (ResK.nil ?_)⟩
    have : tup.take i = tup := List.take_of_length_le (by omega)
    rw [this] at a5
    exact ⟨c1, a5⟩


theorem findI_snoc {α : Type} {p : α → Bool} (b : α) : ∀ (l : List α), findI p (l ++ [b]) = if 0 ≤ findI p l then findI p l else if p b = true then (l.length : Int) else -1
  | [] => by by_cases h : p b = true <;> simp [findI, h]
  | x :: t => by
    have ih := findI_snoc (p := p) b t
    have hge := findI_ge (p := p) (l := t)
    simp only [List.cons_append, findI, ih, List.length_cons]
    by_cases h : p x = true
    · simp [h]
    · rw [if_neg h, if_neg h]
      by_cases h2 : 0 ≤ findI p t
      · rw [if_pos h2, if_neg (by omega), if_pos (by omega)]
      · rw [if_neg h2, if_pos (show findI p t < 0 by omega), if_neg (show ¬ (0 : Int) ≤ -1 by omega)]
        by_cases h3 : p b = true
        · rw [if_pos h3, if_neg (by omega), if_pos h3]; omega
        · rw [if_neg h3, if_pos (by omega), if_neg h3]

theorem findI_append {α : Type} {p : α → Bool} (m : List α) : ∀ (l : List α), findI p (l ++ m) = if 0 ≤ findI p l then findI p l else if findI p m < 0 then -1 else (l.length : Int) + findI p m
  | [] => by
    have := findI_ge (p := p) (l := m)
    simp only [List.nil_append, findI, List.length_nil]
    rw [if_neg (by omega)]
    split <;> omega
  | x :: t => by
    have ih := findI_append (p := p) m t
    have hge := findI_ge (p := p) (l := t)
    simp only [List.cons_append, findI, ih, List.length_cons]
    by_cases h : p x = true
    · simp [h]
    · rw [if_neg h, if_neg h]
      by_cases h2 : 0 ≤ findI p t
      · rw [if_pos h2, if_neg (by omega), if_pos (by omega)]
      · rw [if_neg h2, if_pos (show findI p t < 0 by omega), if_neg (show ¬ (0 : Int) ≤ -1 by omega)]
        by_cases h3 : findI p m < 0
        · rw [if_pos h3, if_pos (by omega), if_pos h3]
        · rw [if_neg h3, if_neg (by omega), if_neg h3]; omega

theorem lastIdx_findI {a : Int} {l : List Int} (h : l.Nodup) : lastIdx a l = findI (fun y => a == y) l := by
  have key : ∀ i, i ≤ l.length → lastIdx a (l.take i) = findI (fun y => a == y) (l.take i) := by
    intro i
    induction i with
    | zero => intro _; simp [lastIdx, findI]
    | succ i ih =>
      intro hi
      have hb : l[i]? = some l[i] := List.getElem?_eq_getElem (by omega)
      rw [take_snoc hb, lastIdx_snoc, findI_snoc, ih (by omega)]
      have hge := findI_ge (p := fun y => a == y) (l := l.take i)
      by_cases e : l[i] = a
      · rw [if_pos e, if_neg, if_pos (by simp [e])]
        intro h2
        obtain ⟨b, hb1, hb2⟩ := findI_nonneg.1 h2
        have hba : b = a := by simpa using (beq_iff_eq.1 hb2).symm
        subst hba
        obtain ⟨j, hj, hj2⟩ := List.getElem_of_mem hb1
        rw [List.length_take] at hj
        rw [List.getElem_take] at hj2
        have := List.pairwise_iff_getElem.1 h j i (by omega) (by omega) (by omega)
        exact this (by rw [hj2, e])
      · rw [if_neg e]
        split
        · rfl
        · rw [if_neg (by simpa using fun h => e h.symm)]; omega
  have := key l.length (Nat.le_refl _)
  rwa [List.take_length] at this

theorem const_nodup {l : List Int} (h : isConst l) : l.Nodup := by
  have mono : ∀ (d i : Nat) (hi : i + d + 1 < l.length), l[i]'(by omega) < l[i + d + 1] := by
    intro d
    induction d with
    | zero => intro i hi; exact (h.2 (i + 1) _ (List.getElem?_eq_getElem hi)).2 _ (by omega) (List.getElem?_eq_getElem (by omega))
    | succ d ih =>
      intro i hi
      have h1 := ih i (by omega)
      have h2 := (h.2 (i + d + 1 + 1) _ (List.getElem?_eq_getElem (by omega))).2 (l[i + d + 1]'(by omega)) (by omega) (List.getElem?_eq_getElem (by omega))
      exact Int.lt_trans h1 h2
  refine List.pairwise_iff_getElem.2 fun i j hi hj hij he => ?_
  have := mono (j - i - 1) i (by omega)
  have e : i + (j - i - 1) + 1 = j := by omega
  simp only [e] at this; omega

end Go.Proofs.Ytefmjpbmdoebaaa

/- The pattern of a tuple, by the program and by the reference. -/
set_option linter.unusedVariables false
namespace Go.Proofs.Ytefmjpbmdoebaaa
open Go Go.RowKit

theorem pattern_ok {H : Hp} {v w : Value} {cs tup : List Int} (h : Sl cI H v cs) (h2 : Sl cI H w tup) (hcs : cs.Nodup) (hl : cs.length + tup.length ≤ 4194304) :
    CallK Try.prog 66 [v, w] H (fun r H' => Calm H H' ∧ Ac cI 3 H.nxt H' r (patSt cs tup).2) := by
  refine (CallK.enter Try.func66 rfl rfl Try.ntmps66 Try.results66 rfl ?_)
  repeat' (first|refine wA ?_|refine wB ?_|refine wH ?_|refine wI ?_|refine wJ ?_|refine wC ?_|refine wD ?_|refine wE ?_|refine wF ?_|refine wG ?_|refine wK ?_|refine wL ?_|refine wM ?_|refine wN ?_|refine wO ?_|refine wP ?_|refine wQ ?_|refine wR ?_|refine wS ?_|refine wT ?_|refine wU ?_|refine wV ?_|refine wW ?_|refine wX ?_)
  refine Run.loopW (fun (a : Nat × Value × Value × Hp × List Int) => tup.length - a.1) (fun a => up (up (up (up (up (up jk 0 v) 5 a.2.1) 6 a.2.2.1) 11 w) 12 (.int .i64 tup.length)) 13 (.int .i64 (a.1 : Int))) (fun a => a.2.2.2.1)
    (fun a => a.1 ≤ tup.length ∧ Calm H a.2.2.2.1 ∧ Ac cI 3 H.nxt a.2.2.2.1 a.2.1 (patSt cs (tup.take a.1)).2 ∧ Ac cI 3 H.nxt a.2.2.2.1 a.2.2.1 a.2.2.2.2 ∧ Ap a.2.1 a.2.2.1 ∧ (patSt cs (tup.take a.1)).1 = cs ++ a.2.2.2.2 ∧ (cs ++ a.2.2.2.2).Nodup) (0, nilS, nilS, H, []) rfl (by repeat (first | exact Wk.jk | refine Wk.up rfl ?_))
    ⟨by dsimp only; omega, Calm.refl H, by simpa [patSt] using Ac.nil, Ac.nil, Ap.nil_l, by simp [patSt], by simpa using hcs⟩ ?_
  rintro ⟨i, v5, v6, H1, seen⟩ ⟨hi, c1, a5, a6, p56, hseen, hnd⟩
  dsimp only at hi c1 a5 a6 p56 hseen hnd
  dsimp only
  have s2 := h2.calm c1
  have s1 := h.calm c1
  have len := patSt_len cs (tup.take i)
  rw [List.length_take, hseen, List.length_append] at len
  repeat' (first|refine wA ?_|refine wB ?_|refine wH ?_|refine wI ?_|refine wJ ?_|refine wC ?_|refine wD ?_|refine wE ?_|refine wF ?_|refine wG ?_|refine wK ?_|refine wL ?_|refine wM ?_|refine wN ?_|refine wO ?_|refine wP ?_|refine wQ ?_|refine wR ?_|refine wS ?_|refine wT ?_|refine wU ?_|refine wV ?_|refine wW ?_|refine wX ?_)
  refine Ops.cmp rfl rfl rfl (fun hc => ?_) (fun hc => ?_)
  · repeat' (first|refine wA ?_|refine wB ?_|refine wH ?_|refine wI ?_|refine wJ ?_|refine wC ?_|refine wD ?_|refine wE ?_|refine wF ?_|refine wG ?_|refine wK ?_|refine wL ?_|refine wM ?_|refine wN ?_|refine wO ?_|refine wP ?_|refine wQ ?_|refine wR ?_|refine wS ?_|refine wT ?_|refine wU ?_|refine wV ?_|refine wW ?_|refine wX ?_)
    refine Ops.idxI s2 rfl (by omega) (by omega) (by kernel_rfl) (by kernel_rfl) fun pz a ha => ?_
    have ha' : tup[i]? = some a := ha
    have hstep : patSt cs (tup.take (i + 1)) = patStep (patSt cs (tup.take i)) a := by rw [take_snoc ha', patSt_snoc]
    unfold patStep at hstep
    rw [hseen, lastIdx_findI hnd, findI_append] at hstep
    repeat' (first|refine wA ?_|refine wB ?_|refine wH ?_|refine wI ?_|refine wJ ?_|refine wC ?_|refine wD ?_|refine wE ?_|refine wF ?_|refine wG ?_|refine wK ?_|refine wL ?_|refine wM ?_|refine wN ?_|refine wO ?_|refine wP ?_|refine wQ ?_|refine wR ?_|refine wS ?_|refine wT ?_|refine wU ?_|refine wV ?_|refine wW ?_|refine wX ?_)
    refine Ops.callE (IndexI_ok s1) ?_
    have hlt1 := findI_lt (p := fun y => a == y) (l := cs)
    have hlt2 := findI_lt (p := fun y => a == y) (l := seen)
    have hge2 := findI_ge (p := fun y => a == y) (l := seen)
    have hnn := findI_nonneg (p := fun y => a == y) (l := cs)
    have hnn2 := findI_nonneg (p := fun y => a == y) (l := seen)
    generalize findI (fun y => a == y) cs = k1 at *
    generalize hk2 : findI (fun y => a == y) seen = k2 at *
    repeat' (first|refine wA ?_|refine wB ?_|refine wH ?_|refine wI ?_|refine wJ ?_|refine wC ?_|refine wD ?_|refine wE ?_|refine wF ?_|refine wG ?_|refine wK ?_|refine wL ?_|refine wM ?_|refine wN ?_|refine wO ?_|refine wP ?_|refine wQ ?_|refine wR ?_|refine wS ?_|refine wT ?_|refine wU ?_|refine wV ?_|refine wW ?_|refine wX ?_)
    refine Ops.cmp rfl rfl rfl (fun hc2 => ?_) (fun hc2 => ?_)
    · repeat' (first|refine wA ?_|refine wB ?_|refine wH ?_|refine wI ?_|refine wJ ?_|refine wC ?_|refine wD ?_|refine wE ?_|refine wF ?_|refine wG ?_|refine wK ?_|refine wL ?_|refine wM ?_|refine wN ?_|refine wO ?_|refine wP ?_|refine wQ ?_|refine wR ?_|refine wS ?_|refine wT ?_|refine wU ?_|refine wV ?_|refine wW ?_|refine wX ?_)
      rw [if_pos hc2, if_neg (show ¬ k1 < 0 by omega)] at hstep
      refine Ops.push (a := k1) rdI a5 rfl (by simp) c1.1 (by kernel_rfl) (by kernel_rfl) (by kernel_rfl) (by omega) (by decide) fun p v5' H2 a5 g2 => ?_
      obtain ⟨a6, p65⟩ := g2.two rdI a6 p56.symm
      repeat' (first|refine wA ?_|refine wB ?_|refine wH ?_|refine wI ?_|refine wJ ?_|refine wC ?_|refine wD ?_|refine wE ?_|refine wF ?_|refine wG ?_|refine wK ?_|refine wL ?_|refine wM ?_|refine wN ?_|refine wO ?_|refine wP ?_|refine wQ ?_|refine wR ?_|refine wS ?_|refine wT ?_|refine wU ?_|refine wV ?_|refine wW ?_|refine wX ?_)
      refine ⟨(i + 1, v5', v6, H2, seen), by dsimp only; omega, rfl, rfl, by dsimp only; exact (by repeat (first | exact Wk.jk | refine Wk.up rfl ?_)), ?_⟩
      refine ⟨by dsimp only; omega, g2.calm H (Nat.le_refl _) c1, ?_, a6, p65.symm, ?_, hnd⟩
      · show Ac _ _ _ _ _ (patSt cs (tup.take (i + 1))).2; rw [hstep]; exact a5
      · show (patSt cs (tup.take (i + 1))).1 = _; rw [hstep]
    · rw [if_neg hc2] at hstep
      repeat' (first|refine wA ?_|refine wB ?_|refine wH ?_|refine wI ?_|refine wJ ?_|refine wC ?_|refine wD ?_|refine wE ?_|refine wF ?_|refine wG ?_|refine wK ?_|refine wL ?_|refine wM ?_|refine wN ?_|refine wO ?_|refine wP ?_|refine wQ ?_|refine wR ?_|refine wS ?_|refine wT ?_|refine wU ?_|refine wV ?_|refine wW ?_|refine wX ?_)
      refine Ops.callE (IndexI_ok a6.sl) ?_
      rw [hk2]
      repeat' (first|refine wA ?_|refine wB ?_|refine wH ?_|refine wI ?_|refine wJ ?_|refine wC ?_|refine wD ?_|refine wE ?_|refine wF ?_|refine wG ?_|refine wK ?_|refine wL ?_|refine wM ?_|refine wN ?_|refine wO ?_|refine wP ?_|refine wQ ?_|refine wR ?_|refine wS ?_|refine wT ?_|refine wU ?_|refine wV ?_|refine wW ?_|refine wX ?_)
      refine Ops.cmp rfl rfl rfl (fun hc3 => ?_) (fun hc3 => ?_)
      · repeat' (first|refine wA ?_|refine wB ?_|refine wH ?_|refine wI ?_|refine wJ ?_|refine wC ?_|refine wD ?_|refine wE ?_|refine wF ?_|refine wG ?_|refine wK ?_|refine wL ?_|refine wM ?_|refine wN ?_|refine wO ?_|refine wP ?_|refine wQ ?_|refine wR ?_|refine wS ?_|refine wT ?_|refine wU ?_|refine wV ?_|refine wW ?_|refine wX ?_)
        rw [if_pos hc3, if_pos (by omega)] at hstep
        refine Ops.push (a := a) rdI a6 rfl (by simp) c1.1 (by kernel_rfl) (by kernel_rfl) (by kernel_rfl) (by omega) (by decide) fun p v6' H2 a6 g2 => ?_
        obtain ⟨a5, p56⟩ := g2.two rdI a5 p56
        have c2 := g2.calm H (Nat.le_refl _) c1
        have s1 := h.calm c2
        repeat' (first|refine wA ?_|refine wB ?_|refine wH ?_|refine wI ?_|refine wJ ?_|refine wC ?_|refine wD ?_|refine wE ?_|refine wF ?_|refine wG ?_|refine wK ?_|refine wL ?_|refine wM ?_|refine wN ?_|refine wO ?_|refine wP ?_|refine wQ ?_|refine wR ?_|refine wS ?_|refine wT ?_|refine wU ?_|refine wV ?_|refine wW ?_|refine wX ?_)
        refine Ops.push (a := (cs.length : Int) + (seen.length : Int)) rdI a5 rfl (by simp) c2.1 (by kernel_rfl) (by kernel_rfl) (by kernel_rfl) (by omega) (by decide) fun p v5' H3 a5 g3 => ?_
        obtain ⟨a6, p65⟩ := g3.two rdI a6 p56.symm
        repeat' (first|refine wA ?_|refine wB ?_|refine wH ?_|refine wI ?_|refine wJ ?_|refine wC ?_|refine wD ?_|refine wE ?_|refine wF ?_|refine wG ?_|refine wK ?_|refine wL ?_|refine wM ?_|refine wN ?_|refine wO ?_|refine wP ?_|refine wQ ?_|refine wR ?_|refine wS ?_|refine wT ?_|refine wU ?_|refine wV ?_|refine wW ?_|refine wX ?_)
        refine ⟨(i + 1, v5', v6', H3, seen ++ [a]), by dsimp only; omega, rfl, rfl, by dsimp only; exact (by repeat (first | exact Wk.jk | refine Wk.up rfl ?_)), ?_⟩
        refine ⟨by dsimp only; omega, g3.calm H (Nat.le_refl _) c2, ?_, a6, p65.symm, ?_, ?_⟩
        · show Ac _ _ _ _ _ (patSt cs (tup.take (i + 1))).2; rw [hstep]; simpa using a5
        · show (patSt cs (tup.take (i + 1))).1 = _; rw [hstep]; simp
        · show (cs ++ (seen ++ [a])).Nodup
          rw [← List.append_assoc, List.nodup_append]
          refine ⟨hnd, by simp, fun x hx y hy e => ?_⟩
          obtain rfl := List.mem_singleton.1 hy
          subst e
          rcases List.mem_append.1 hx with h5 | h5
          · have := hnn.2 ⟨x, h5, by simp⟩; omega
          · have := hnn2.2 ⟨x, h5, by simp⟩; omega
      · repeat' (first|refine wA ?_|refine wB ?_|refine wH ?_|refine wI ?_|refine wJ ?_|refine wC ?_|refine wD ?_|refine wE ?_|refine wF ?_|refine wG ?_|refine wK ?_|refine wL ?_|refine wM ?_|refine wN ?_|refine wO ?_|refine wP ?_|refine wQ ?_|refine wR ?_|refine wS ?_|refine wT ?_|refine wU ?_|refine wV ?_|refine wW ?_|refine wX ?_)
        rw [if_neg hc3, if_neg (by omega)] at hstep
        refine Ops.push (a := (cs.length : Int) + k2) rdI a5 rfl (by simp) c1.1 (by kernel_rfl) (by kernel_rfl) (by kernel_rfl) (by omega) (by decide) fun p v5' H3 a5 g3 => ?_
        obtain ⟨a6, p65⟩ := g3.two rdI a6 p56.symm
        repeat' (first|refine wA ?_|refine wB ?_|refine wH ?_|refine wI ?_|refine wJ ?_|refine wC ?_|refine wD ?_|refine wE ?_|refine wF ?_|refine wG ?_|refine wK ?_|refine wL ?_|refine wM ?_|refine wN ?_|refine wO ?_|refine wP ?_|refine wQ ?_|refine wR ?_|refine wS ?_|refine wT ?_|refine wU ?_|refine wV ?_|refine wW ?_|refine wX ?_)
        refine ⟨(i + 1, v5', v6, H3, seen), by dsimp only; omega, rfl, rfl, by dsimp only; exact (by repeat (first | exact Wk.jk | refine Wk.up rfl ?_)), ?_⟩
        refine ⟨by dsimp only; omega, g3.calm H (Nat.le_refl _) c1, ?_, a6, p65.symm, ?_, hnd⟩
        · show Ac _ _ _ _ _ (patSt cs (tup.take (i + 1))).2; rw [hstep]; exact a5
        · show (patSt cs (tup.take (i + 1))).1 = _; rw [hstep]
  · repeat' (first|refine wA ?_|refine wB ?_|refine wH ?_|refine wI ?_|refine wJ ?_|refine wC ?_|refine wD ?_|refine wE ?_|refine wF ?_|refine wG ?_|refine wK ?_|refine wL ?_|refine wM ?_|refine wN ?_|refine wO ?_|refine wP ?_|refine wQ ?_|refine wR ?_|refine wS ?_|refine wT ?_|refine wU ?_|refine wV ?_|refine wW ?_|refine wX ?_)
    refine Run.ret ⟨.inl rfl, ResK.tmp rfl (by conv => lhs; whnf) (ResK.nil ?_)⟩
    rw [take_end (by omega)] at a5
    exact ⟨c1, a5⟩

/-- What PatternOf hands back. -/
noncomputable def patOf (cs tup : List Int) : List Int := if dec (isConst cs ∧ isTup tup) = true then (patSt cs tup).2 else []

theorem PatternOf_ok {H : Hp} {v w : Value} {cs tup : List Int} (h : Sl cI H v cs) (h2 : Sl cI H w tup) :
    CallK Try.prog 26 [v, w] H (fun r H' => Calm H H' ∧ ∃ u, r = .tuple #[u, .bool (dec (isConst cs ∧ isTup tup))] ∧ Ac cI 3 H.nxt H' u (patOf cs tup)) := by
  have no : ¬ (isConst cs ∧ isTup tup) → Calm H H ∧ ∃ u, (Value.tuple #[nilS, .bool false]) = .tuple #[u, .bool (dec (isConst cs ∧ isTup tup))] ∧ Ac cI 3 H.nxt H u (patOf cs tup) := fun hn => by
    unfold patOf
    rw [dec_f hn]
    exact ⟨Calm.refl H, nilS, rfl, Ac.nil⟩
  refine (CallK.enter Try.func26 rfl rfl Try.ntmps26 Try.results26 rfl ?_)
  repeat' (first|refine wA ?_|refine wB ?_|refine wH ?_|refine wI ?_|refine wJ ?_|refine wC ?_|refine wD ?_|refine wE ?_|refine wF ?_|refine wG ?_|refine wK ?_|refine wL ?_|refine wM ?_|refine wN ?_|refine wO ?_|refine wP ?_|refine wQ ?_|refine wR ?_|refine wS ?_|refine wT ?_|refine wU ?_|refine wV ?_|refine wW ?_|refine wX ?_)
  refine Ops.callB (areConstants_ok h) (fun hc => ?_) (fun hc => ?_)
  · repeat' (first|refine wA ?_|refine wB ?_|refine wH ?_|refine wI ?_|refine wJ ?_|refine wC ?_|refine wD ?_|refine wE ?_|refine wF ?_|refine wG ?_|refine wK ?_|refine wL ?_|refine wM ?_|refine wN ?_|refine wO ?_|refine wP ?_|refine wQ ?_|refine wR ?_|refine wS ?_|refine wT ?_|refine wU ?_|refine wV ?_|refine wW ?_|refine wX ?_)
    refine Ops.callB (isTuple_ok h2) (fun hc2 => ?_) (fun hc2 => ?_)
    · have hc := of_dec_t hc
      have hc2 := of_dec_t hc2
      repeat' (first|refine wA ?_|refine wB ?_|refine wH ?_|refine wI ?_|refine wJ ?_|refine wC ?_|refine wD ?_|refine wE ?_|refine wF ?_|refine wG ?_|refine wK ?_|refine wL ?_|refine wM ?_|refine wN ?_|refine wO ?_|refine wP ?_|refine wQ ?_|refine wR ?_|refine wS ?_|refine wT ?_|refine wU ?_|refine wV ?_|refine wW ?_|refine wX ?_)
      have := hc.1
      have := hc2.1
      refine Ops.call (pattern_ok h h2 (const_nodup hc) (by omega)) (fun _ _ h _ => h.1.ge') fun r H1 => ?_
      rintro ⟨c1, a1⟩
      repeat' (first|refine wA ?_|refine wB ?_|refine wH ?_|refine wI ?_|refine wJ ?_|refine wC ?_|refine wD ?_|refine wE ?_|refine wF ?_|refine wG ?_|refine wK ?_|refine wL ?_|refine wM ?_|refine wN ?_|refine wO ?_|refine wP ?_|refine wQ ?_|refine wR ?_|refine wS ?_|refine wT ?_|refine wU ?_|refine wV ?_|refine wW ?_|refine wX ?_)
      refine Run.ret ⟨.inl rfl, ResK.tmp rfl (by conv => lhs; whnf) (ResK.tmp rfl (by conv => lhs; whnf) (ResK.nil ?_))⟩
      unfold patOf
      rw [dec_t ⟨hc, hc2⟩]
      exact ⟨c1, r, rfl, a1⟩
    · repeat' (first|refine wA ?_|refine wB ?_|refine wH ?_|refine wI ?_|refine wJ ?_|refine wC ?_|refine wD ?_|refine wE ?_|refine wF ?_|refine wG ?_|refine wK ?_|refine wL ?_|refine wM ?_|refine wN ?_|refine wO ?_|refine wP ?_|refine wQ ?_|refine wR ?_|refine wS ?_|refine wT ?_|refine wU ?_|refine wV ?_|refine wW ?_|refine wX ?_)
      refine Run.ret ⟨.inl rfl, ResK.tmp rfl (by conv => lhs; whnf) (ResK.tmp rfl (by conv => lhs; whnf) (ResK.nil ?_))⟩
      exact no (fun h => of_dec_f hc2 h.2)
  · repeat' (first|refine wA ?_|refine wB ?_|refine wH ?_|refine wI ?_|refine wJ ?_|refine wC ?_|refine wD ?_|refine wE ?_|refine wF ?_|refine wG ?_|refine wK ?_|refine wL ?_|refine wM ?_|refine wN ?_|refine wO ?_|refine wP ?_|refine wQ ?_|refine wR ?_|refine wS ?_|refine wT ?_|refine wU ?_|refine wV ?_|refine wW ?_|refine wX ?_)
    refine Run.ret ⟨.inl rfl, ResK.tmp rfl (by conv => lhs; whnf) (ResK.tmp rfl (by conv => lhs; whnf) (ResK.nil ?_))⟩
    exact no (fun h => of_dec_f hc h.1)

theorem specPatternOf_ok {H : Hp} {v w : Value} {cs tup : List Int} (h : Sl cI H v cs) (h2 : Sl cI H w tup) :
    CallK Try.prog 24 [v, w] H (fun r H' => Calm H H' ∧ ∃ u, r = .tuple #[u, .bool (dec (isConst cs ∧ isTup tup))] ∧ Sl cI H' u (patOf cs tup)) := by
  have no : ¬ (isConst cs ∧ isTup tup) → ∀ v' H', Ac cI 3 H.nxt H' v' [] → Calm H H' → Calm H H' ∧ ∃ u, (Value.tuple #[v', .bool false]) = .tuple #[u, .bool (dec (isConst cs ∧ isTup tup))] ∧ Sl cI H' u (patOf cs tup) := fun hn v' H' h1 h2 => by
    unfold patOf
    rw [dec_f hn]
    exact ⟨h2, v', rfl, h1.sl⟩
  refine (CallK.enter Try.func24 rfl rfl Try.ntmps24 Try.results24 rfl ?_)
  repeat' (first|refine wA ?_|refine wB ?_|refine wH ?_|refine wI ?_|refine wJ ?_|refine wC ?_|refine wD ?_|refine wE ?_|refine wF ?_|refine wG ?_|refine wK ?_|refine wL ?_|refine wM ?_|refine wN ?_|refine wO ?_|refine wP ?_|refine wQ ?_|refine wR ?_|refine wS ?_|refine wT ?_|refine wU ?_|refine wV ?_|refine wW ?_|refine wX ?_)
  refine Ops.callB (l6Constants_ok h) (fun hc => ?_) (fun hc => ?_)
  · repeat' (first|refine wA ?_|refine wB ?_|refine wH ?_|refine wI ?_|refine wJ ?_|refine wC ?_|refine wD ?_|refine wE ?_|refine wF ?_|refine wG ?_|refine wK ?_|refine wL ?_|refine wM ?_|refine wN ?_|refine wO ?_|refine wP ?_|refine wQ ?_|refine wR ?_|refine wS ?_|refine wT ?_|refine wU ?_|refine wV ?_|refine wW ?_|refine wX ?_)
    refine Ops.callB (l6Tuple_ok h2) (fun hc2 => ?_) (fun hc2 => ?_)
    · have hc := of_dec_t hc
      have hc2 := of_dec_t hc2
      repeat' (first|refine wA ?_|refine wB ?_|refine wH ?_|refine wI ?_|refine wJ ?_|refine wC ?_|refine wD ?_|refine wE ?_|refine wF ?_|refine wG ?_|refine wK ?_|refine wL ?_|refine wM ?_|refine wN ?_|refine wO ?_|refine wP ?_|refine wQ ?_|refine wR ?_|refine wS ?_|refine wT ?_|refine wU ?_|refine wV ?_|refine wW ?_|refine wX ?_)
      have := hc.1
      have := hc2.1
      refine Ops.call (l6Pattern_ok h h2 (by omega)) (fun _ _ h _ => h.1.ge') fun r H1 => ?_
      rintro ⟨c1, a1⟩
      repeat' (first|refine wA ?_|refine wB ?_|refine wH ?_|refine wI ?_|refine wJ ?_|refine wC ?_|refine wD ?_|refine wE ?_|refine wF ?_|refine wG ?_|refine wK ?_|refine wL ?_|refine wM ?_|refine wN ?_|refine wO ?_|refine wP ?_|refine wQ ?_|refine wR ?_|refine wS ?_|refine wT ?_|refine wU ?_|refine wV ?_|refine wW ?_|refine wX ?_)
      refine Run.ret ⟨.inl rfl, ResK.tmp rfl (by conv => lhs; whnf) (ResK.tmp rfl (by conv => lhs; whnf) (ResK.nil ?_))⟩
      unfold patOf
      rw [dec_t ⟨hc, hc2⟩]
      exact ⟨c1, r, rfl, a1.sl⟩
    · repeat' (first|refine wA ?_|refine wB ?_|refine wH ?_|refine wI ?_|refine wJ ?_|refine wC ?_|refine wD ?_|refine wE ?_|refine wF ?_|refine wG ?_|refine wK ?_|refine wL ?_|refine wM ?_|refine wN ?_|refine wO ?_|refine wP ?_|refine wQ ?_|refine wR ?_|refine wS ?_|refine wT ?_|refine wU ?_|refine wV ?_|refine wW ?_|refine wX ?_)
      refine Ops.lit0 cI 3 H.nxt (by kernel_rfl) (by kernel_rfl) (Nat.le_refl _) fun u H1 a1 c1 p1 => ?_
      repeat' (first|refine wA ?_|refine wB ?_|refine wH ?_|refine wI ?_|refine wJ ?_|refine wC ?_|refine wD ?_|refine wE ?_|refine wF ?_|refine wG ?_|refine wK ?_|refine wL ?_|refine wM ?_|refine wN ?_|refine wO ?_|refine wP ?_|refine wQ ?_|refine wR ?_|refine wS ?_|refine wT ?_|refine wU ?_|refine wV ?_|refine wW ?_|refine wX ?_)
      refine Run.ret ⟨.inl rfl, ResK.tmp rfl (by conv => lhs; whnf) (ResK.tmp rfl (by conv => lhs; whnf) (ResK.nil ?_))⟩
      exact no (fun h => of_dec_f hc2 h.2) _ _ a1 c1
  · repeat' (first|refine wA ?_|refine wB ?_|refine wH ?_|refine wI ?_|refine wJ ?_|refine wC ?_|refine wD ?_|refine wE ?_|refine wF ?_|refine wG ?_|refine wK ?_|refine wL ?_|refine wM ?_|refine wN ?_|refine wO ?_|refine wP ?_|refine wQ ?_|refine wR ?_|refine wS ?_|refine wT ?_|refine wU ?_|refine wV ?_|refine wW ?_|refine wX ?_)
    refine Ops.lit0 cI 3 H.nxt (by kernel_rfl) (by kernel_rfl) (Nat.le_refl _) fun u H1 a1 c1 p1 => ?_
    repeat' (first|refine wA ?_|refine wB ?_|refine wH ?_|refine wI ?_|refine wJ ?_|refine wC ?_|refine wD ?_|refine wE ?_|refine wF ?_|refine wG ?_|refine wK ?_|refine wL ?_|refine wM ?_|refine wN ?_|refine wO ?_|refine wP ?_|refine wQ ?_|refine wR ?_|refine wS ?_|refine wT ?_|refine wU ?_|refine wV ?_|refine wW ?_|refine wX ?_)
    refine Run.ret ⟨.inl rfl, ResK.tmp rfl (by conv => lhs; whnf) (ResK.tmp rfl (by conv => lhs; whnf) (ResK.nil ?_))⟩
    exact no (fun h => of_dec_f hc h.1) _ _ a1 c1

end Go.Proofs.Ytefmjpbmdoebaaa

/- The abstract machine, part 19: structs in memory. -/
set_option linter.unusedVariables false
set_option linter.unusedSimpArgs false
namespace Go.Proofs.Ytefmjpbmdoebaaa
open Go Go.RowKit

/-- A pointer to a row: its cells. -/
def Pt (H : Hp) (v : Value) (cs : List Value) : Prop := ∃ id ob, v = .pointer (some ⟨id, 0, none⟩) ∧ H.get id = some ob ∧ ob.cs = cs
/-- A pointer to a row of the call's own, made since k. -/
def Po (k : Nat) (H : Hp) (v : Value) (cs : List Value) : Prop := ∃ id ob, v = .pointer (some ⟨id, 0, none⟩) ∧ H.get id = some ob ∧ ob.cs = cs ∧ H.own id = true ∧ k ≤ H.root id

section
variable {H H' H0 : Hp} {v u : Value} {cs : List Value} {k r : Nat}

theorem Po.pt (h : Po k H v cs) : Pt H v cs := let ⟨id, ob, h1, h2, h3, _⟩ := h; ⟨id, ob, h1, h2, h3⟩
theorem Pt.calm (h : Pt H v cs) (hc : Calm H H') : Pt H' v cs := let ⟨id, ob, h1, h2, h3⟩ := h; ⟨id, ob, h1, (hc.2 id (Hp.lt h2)).1.trans h2, h3⟩
theorem Po.calm (h : Po k H v cs) (hc : Calm H H') : Po k H' v cs := by
  obtain ⟨id, ob, h1, h2, h3, h4, h5⟩ := h
  obtain ⟨e1, e2, e3⟩ := hc.2 id (Hp.lt h2)
  exact ⟨id, ob, h1, e1.trans h2, h3, e2.trans h4, by rw [e3]; exact h5⟩
theorem Pt.kp (h : Pt H v cs) (hk : Kp H u H') : Pt H' v cs := let ⟨id, ob, h1, h2, h3⟩ := h; ⟨id, ob, h1, (hk.2 id (Hp.lt h2)).1.trans h2, h3⟩
theorem Po.kp (h : Po k H v cs) (hk : Kp H u H') (hp : Ap v u) : Po k H' v cs := by
  obtain ⟨id, ob, h1, h2, h3, h4, h5⟩ := h
  obtain ⟨e1, e2, e3⟩ := hk.2 id (Hp.lt h2)
  exact ⟨id, ob, h1, e1.trans h2, h3, (e3 (hp id (by rw [h1]; rfl))).trans h4, by rw [e2]; exact h5⟩
theorem Pt.live (h : Pt H v cs) : Live H v := by
  obtain ⟨id, ob, h1, h2, h3⟩ := h
  intro i hi
  rw [h1] at hi; cases hi; exact Hp.lt h2
theorem Po.rt (h : Po k H v cs) : ∃ r, k ≤ r ∧ Rt H v r := by
  obtain ⟨id, ob, h1, h2, h3, h4, h5⟩ := h
  exact ⟨_, h5, id, by rw [h1]; rfl, Hp.lt h2, h4, rfl⟩

end

/-- The field f of the struct type s begins at the cell off. -/
def fldOK (P : Program) (s f off : Nat) : Bool :=
  match P.underlying s with
  | some (.struct fs) =>
    match fs[f]? with
    | some fl => fl.offset == off && (match P.info? fl.type with | some i => !(i.size == 0) | none => false)
    | none => false
  | _ => false

theorem fldOK_at {P : Program} {s f off : Nat} (h : fldOK P s f off = true) : ∃ fs fl i, P.underlying s = some (.struct fs) ∧ fs[f]? = some fl ∧ fl.offset = off ∧ P.info? fl.type = some i ∧ i.size ≠ 0 := by
  unfold fldOK at h
  split at h
  · rename_i fs hs
    split at h
    · rename_i fl hf
      rw [Bool.and_eq_true] at h
      obtain ⟨h1, h2⟩ := h
      split at h2
      · rename_i i hi
        exact ⟨fs, fl, i, hs, hf, by simpa using h1, hi, by simpa using h2⟩
      · cases h2
    · cases h
  · cases h

section
variable {P : Program} {fl : Bool} {all : Array Oper} {rest : List Oper} {n : Nat} {T : Nat → Value} {H H' : Hp} {K : St → Prop} {d d1 d2 : Nat} {ty ty1 ty2 : TypeId} {ps ps1 ps2 : String} {af af1 af2 : Array Edge} {v : Value} {x y z : Operand} {cs : List Value} {k r : Nat}

/-- A value is laid in memory. -/
theorem Ops.box (k : Nat) {t : TypeId} (hk : k ≤ H.nxt) (hn : Value.known (rd T x) = true) (hc : cellsOf (rd T x) = cs) (h0 : 0 < cs.length)
    (kk : ∀ v' H', Po k H' v' cs → Calm H H' → (∀ u, Live H u → Ap u v') → Ops P fl all rest ⟨n, up T d v', H'⟩ K) : Ops P fl all (⟨some d, .box t x, ty, ps, af, none⟩ :: rest) ⟨n, T, H⟩ K := by
  subst hc
  refine .make_ rfl (anew_box rfl hn h0) ?_
  refine kk _ _ ⟨H.nxt, _, rfl, Hp.new_get _ _, rfl, Hp.new_own _ _, by rw [Hp.new_root]; exact hk⟩ (Calm.new _ _) fun u hu i hi h => ?_
  have := hu i hi
  injection h with h
  have h' : H.nxt = i := h
  omega

/-- A field of one cell, read. -/
theorem Ops.fld (off : Nat) {s f te : TypeId} (h : Pt H (rd T x) cs) (hs : fldOK P s f off = true) (hte : agT P te false = true) (hv : cs[off]? = some v) (kk : ∀ p, Ops P fl all rest ⟨n, up (up T d1 p) d2 v, H⟩ K) :
    Ops P fl all (⟨some d1, .fieldAddr s x f, ty1, ps1, af1, none⟩ :: ⟨some d2, .load te (.tmp d1), ty2, ps2, af2, none⟩ :: rest) ⟨n, T, H⟩ K := by
  obtain ⟨fs, fl', i, h1, h2, h3, h4, h5⟩ := fldOK_at hs
  obtain ⟨dd, h6, h7⟩ := agT_at hte
  obtain ⟨id, ob, e1, e2, e3⟩ := h
  refine .go (v := .pointer (some ⟨id, 0 + fl'.offset, none⟩)) rfl (fun _ => aev_fieldAddr rfl h1 h2 h4 h5 e1) ?_
  have hp : rd (up T d1 (.pointer (some ⟨id, 0 + fl'.offset, none⟩))) (.tmp d1) = .pointer (some ⟨id, 0 + fl'.offset, none⟩) := if_pos rfl
  exact .get rfl e2 (mention (by simp [Op.operands]) hp) (fun _ hg => aev_load rfl h6 h7 hp hg (by rw [Nat.zero_add, h3, e3]; exact hv)) (kk _)

/-- Is the type's size n cells? -/
def szT (P : Program) (t n : Nat) : Bool := match P.info? t with | some i => i.size == n | none => false
theorem szT_at {t m : Nat} (h : szT P t m = true) : ∃ i, P.info? t = some i ∧ i.size = m := by
  unfold szT at h
  split at h
  · rename_i i hi; exact ⟨i, hi, by simpa using h⟩
  · cases h

/-- new(T) -/
theorem Ops.alloc (k : Nat) {t : TypeId} {z0 : Value} (hk : k ≤ H.nxt) (hz : (P.info? t).bind (·.zero) = some z0) (hst : (cellsOf z0).all Value.still = true) (h0 : 0 < (cellsOf z0).length)
    (kk : ∀ v' H', Po k H' v' (cellsOf z0) → Calm H H' → (∀ u, Live H u → Ap u v') → Ops P fl all rest ⟨n, up T d v', H'⟩ K) : Ops P fl all (⟨some d, .alloc t, ty, ps, af, none⟩ :: rest) ⟨n, T, H⟩ K := by
  cases hi : P.info? t with
  | none => rw [hi] at hz; cases hz
  | some i =>
    rw [hi] at hz
    refine .make_ rfl (anew_alloc rfl hi hz hst h0) ?_
    refine kk _ _ ⟨H.nxt, _, rfl, Hp.new_get _ _, rfl, Hp.new_own _ _, by rw [Hp.new_root]; exact hk⟩ (Calm.new _ _) fun u hu i hi h => ?_
    have := hu i hi
    injection h with h
    have h' : H.nxt = i := h
    omega

/-- A field of one cell, written. -/
theorem Ops.setf (off : Nat) {s f te : TypeId} {w : Value} (h : Po k H (rd T x) cs) (hr : Rt H (rd T x) r) (hs : fldOK P s f off = true) (hte : szT P te 1 = true) (hz : rd T z = w) (hzd : z ≠ .tmp d1) (hw : cellsOf w = [w]) (hw1 : Value.one w = true) (hlt : off < cs.length)
    (kk : ∀ p H', Mod r H H' → Po k H' (rd T x) (cs.set off w) → Ops P fl all rest ⟨n, up T d1 p, H'⟩ K) :
    Ops P fl all (⟨some d1, .fieldAddr s x f, ty1, ps1, af1, none⟩ :: ⟨none, .store te (.tmp d1) z, ty2, ps2, af2, none⟩ :: rest) ⟨n, T, H⟩ K := by
  obtain ⟨fs, fl', i, h1, h2, h3, h4, h5⟩ := fldOK_at hs
  obtain ⟨it, h6, h7⟩ := szT_at hte
  obtain ⟨id, ob, e1, e2, e3, e4, e5⟩ := h
  have hroot : H.root id = r := by
    obtain ⟨id', g1, g2, g3, g4⟩ := hr
    rw [e1] at g1
    injection g1 with g1
    have g1' : id = id' := g1
    subst g1'; exact g4
  refine .go (v := .pointer (some ⟨id, 0 + fl'.offset, none⟩)) rfl (fun _ => aev_fieldAddr rfl h1 h2 h4 h5 e1) ?_
  have hrz : rd (up T d1 (.pointer (some ⟨id, 0 + fl'.offset, none⟩))) z = w := by
    rw [← hz]
    cases z with
    | tmp q => exact if_neg (fun e => hzd (by rw [e]))
    | _ => rfl
  have hlen : off < ob.cs.length := by rw [e3]; exact hlt
  have hst := aev_store (P := P) (o := ⟨none, .store te (.tmp d1) z, ty2, ps2, af2, none⟩) (ρ := rd (up T d1 (.pointer (some ⟨id, 0 + fl'.offset, none⟩)))) rfl h6 (by rw [hrz, h7, hw]; rfl) (by rw [hrz, hw]; simp [hw1]) (by show (if d1 = d1 then _ else _) = _; rw [if_pos rfl]) e2 e4 (by rw [hrz, hw, h3]; simp; omega)
  rw [hrz, hw, h3, Nat.zero_add, splice_one hlen] at hst
  rw [h3, Nat.zero_add]
  refine .write0 rfl hst (Nat.le_refl _) ?_
  have hm : Mod r H (H.upd id ⟨ob.e, ob.sz, ob.cs.set off w⟩ (Hp.lt e2)) := by rw [← hroot]; exact Mod.upd (Hp.lt e2)
  exact kk _ _ hm ⟨id, _, e1, Hp.upd_get _ _ _ _, by rw [e3], e4, e5⟩

/-- A whole struct, read. -/
theorem Ops.loadS {s : TypeId} (h : Pt H (rd T x) cs) (hs : agT P s true = true) (hz : szT P s cs.length = true) (kk : Ops P fl all rest ⟨n, up T d (.agg cs.toArray), H⟩ K) : Ops P fl all (⟨some d, .load s x, ty, ps, af, none⟩ :: rest) ⟨n, T, H⟩ K := by
  obtain ⟨dd, h1, h2⟩ := agT_at hs
  obtain ⟨i, h3, h4⟩ := szT_at hz
  obtain ⟨id, ob, e1, e2, e3⟩ := h
  exact .get rfl e2 (mention (by simp [Op.operands]) e1) (fun _ hg => aev_loadN (n := 0) rfl h1 h2 h3 h4 e1 hg (fun j v hj => by rw [Nat.zero_add, e3]; exact hj)) kk

/-- A whole struct, written. -/
theorem Ops.storeS {s : TypeId} {ds : List Value} (h : Po k H (rd T x) cs) (hr : Rt H (rd T x) r) (hy : cellsOf (rd T y) = ds) (hz : szT P s ds.length = true) (hl : ds.length = cs.length) (h1 : ds.all Value.one = true)
    (kk : ∀ H', Mod r H H' → Po k H' (rd T x) ds → Ops P fl all rest ⟨n, T, H'⟩ K) : Ops P fl all (⟨none, .store s x y, ty, ps, af, none⟩ :: rest) ⟨n, T, H⟩ K := by
  obtain ⟨i, h3, h4⟩ := szT_at hz
  obtain ⟨id, ob, e1, e2, e3, e4, e5⟩ := h
  have hroot : H.root id = r := by
    obtain ⟨id', g1, g2, g3, g4⟩ := hr
    rw [e1] at g1
    injection g1 with g1
    have g1' : id = id' := g1
    subst g1'; exact g4
  have hst := aev_store (P := P) (o := ⟨none, .store s x y, ty, ps, af, none⟩) (ρ := rd T) rfl h3 (by rw [hy, h4]) (by rw [hy]; exact h1) e1 e2 e4 (by rw [hy, e3]; omega)
  rw [hy] at hst
  have hsp : splice ob.cs 0 ds = ds := by
    unfold splice
    rw [e3, List.take_zero, List.nil_append, List.drop_of_length_le (by omega), List.append_nil]
  rw [hsp] at hst
  refine .write0 rfl hst (Nat.le_refl _) ?_
  have hm : Mod r H (H.upd id ⟨ob.e, ob.sz, ds⟩ (Hp.lt e2)) := by rw [← hroot]; exact Mod.upd (Hp.lt e2)
  exact kk _ hm ⟨id, _, e1, Hp.upd_get _ _ _ _, rfl, e4, e5⟩

/-- x := v of a struct that lies in memory. -/
theorem Ops.var (k : Nat) {s : TypeId} {ds : List Value} {z0 : Value} (hk : k ≤ H.nxt) (hz0 : (P.info? s).bind (·.zero) = some z0) (hst : (cellsOf z0).all Value.still = true) (h0 : 0 < (cellsOf z0).length) (hy : cellsOf (rd T y) = ds) (hyd : y ≠ .tmp d) (hz : szT P s ds.length = true) (hl : ds.length = (cellsOf z0).length) (h1 : ds.all Value.one = true)
    (kk : ∀ v' H', Po k H' v' ds → Calm H H' → (∀ u, Live H u → Ap u v') → Ops P fl all rest ⟨n, up T d v', H'⟩ K) : Ops P fl all (⟨some d, .alloc s, ty, ps, af, none⟩ :: ⟨none, .store s (.tmp d) y, ty1, ps1, af1, none⟩ :: rest) ⟨n, T, H⟩ K := by
  refine Ops.alloc H.nxt (Nat.le_refl _) hz0 hst h0 fun v' H1 o1 c1 a1 => ?_
  obtain ⟨r, hr, t1⟩ := o1.rt
  have hrx : rd (up T d v') (.tmp d) = v' := if_pos rfl
  have hry : rd (up T d v') y = rd T y := by
    cases y with
    | tmp q => exact if_neg (fun e => hyd (by rw [e]))
    | _ => rfl
  refine Ops.storeS (ds := ds) (k := H.nxt) (r := r) (by rw [hrx]; exact o1) (by rw [hrx]; exact t1) (by rw [hry]; exact hy) hz hl h1 fun H2 m2 o2 => ?_
  rw [hrx] at o2
  obtain ⟨id, ob, e1, e2, e3, e4, e5⟩ := o2
  exact kk v' H2 ⟨id, ob, e1, e2, e3, e4, Nat.le_trans hk e5⟩ (m2.calm c1 hr) a1

/-- A result that lies in memory: a struct. -/
theorem ResK.cells {t a : Nat} {rvs : List ResultVar} {K : List Value → Prop} (ha : a.blt n = true) (h : Pt H (T a) cs) (hs : agT P t true = true) (hz : szT P t cs.length = true) (k : ResK P ⟨n, T, H⟩ rvs (fun vs => K (.agg cs.toArray :: vs))) : ResK P ⟨n, T, H⟩ (.cell a t :: rvs) K := by
  obtain ⟨dd, h1, h2⟩ := agT_at hs
  obtain ⟨i, h3, h4⟩ := szT_at hz
  obtain ⟨id, ob, e1, e2, e3⟩ := h
  exact .cons (.cells (by simpa using ha) e1 h1 h2 h3 h4 e2 (fun j v hj => by rw [Nat.zero_add, e3]; exact hj)) k

end
end Go.Proofs.Ytefmjpbmdoebaaa

/- Sets of orbits: their data, in cells and in a law's argument. -/
set_option linter.unusedVariables false
namespace Go.Proofs.Ytefmjpbmdoebaaa
open Go Go.RowKit

/-- A set of orbits: width, constants, patterns. -/
structure OS where
  width : Int
  consts : List Int
  pats : List (List Int)

def cOS : Cd OS where
  sz := 3
  ok := fun H cs s => ∃ v1 v2, cs = [.int .i64 s.width, v1, v2] ∧ Sl cI H v1 s.consts ∧ Sl (cL cI) H v2 s.pats
  pos := by omega
  len := fun ⟨v1, v2, h, _⟩ => by rw [h]; rfl
  one := fun ⟨v1, v2, h, h1, h2⟩ => by rw [h, List.all_cons, List.all_cons, List.all_cons, sl_one h1, sl_one h2]; rfl
  calm := fun hc ⟨v1, v2, h, h1, h2⟩ => ⟨v1, v2, h, h1.calm hc, h2.calm hc⟩

theorem opens_os {P : Program} {t ti ts tss : TypeId} {fs : Array Field} (ht : P.underlying t = some (.struct fs)) (hf : fs.toList.map (fun f => (f.type, f.offset, P.cellsOf f.type)) = [(ti, 0, 1), (ts, 1, 1), (tss, 2, 1)]) (hc : P.cellsOf t = 3)
    (h1 : Opens P cI ti InR) (h2 : Opens P (cL cI) ts (fun l => ∀ x ∈ l, InR x)) (h3 : Opens P (cL (cL cI)) tss (fun l => ∀ x ∈ l, ∀ y ∈ x, InR y)) :
    Opens P cOS t (fun s => InR s.width ∧ (∀ x ∈ s.consts, InR x) ∧ ∀ x ∈ s.pats, ∀ y ∈ x, InR y) := by
  intro X enc w base spare held fuel cs x h
  cases fuel with
  | zero => cases h
  | succ fuel =>
    obtain ⟨hl, hg⟩ := opens_struct ht hf h
    rw [hc] at hl
    match cs, hl with
    | [c0, c1, c2], _ =>
      obtain ⟨y0, g0⟩ := hg 0 (ti, 0, 1) rfl
      obtain ⟨y1, g1⟩ := hg 1 (ts, 1, 1) rfl
      obtain ⟨y2, g2⟩ := hg 2 (tss, 2, 1) rfl
      obtain ⟨a, q0, k0⟩ := h1 X enc w base spare held fuel _ _ g0
      obtain ⟨l, q1, k1⟩ := h2 X enc w base spare held fuel _ _ g1
      obtain ⟨m, q2, k2⟩ := h3 X enc w base spare held fuel _ _ g2
      refine ⟨⟨a, l, m⟩, ⟨q0, q1, q2⟩, canonC w.heap.size c1, canonC w.heap.size c2, ?_, cL_at k1, cL_at k2⟩
      have e0 : canonC w.heap.size c0 = .int .i64 a := by
        have : [canonC w.heap.size c0] = [Value.int .i64 a] := k0
        simpa using this
      simp [e0]

end Go.Proofs.Ytefmjpbmdoebaaa

/- The laws' small functions on sets of orbits. -/
set_option linter.unusedVariables false
namespace Go.Proofs.Ytefmjpbmdoebaaa
open Go Go.RowKit

def szL (n : Nat) (left : Int) : Int := if left - n < 0 then -1 else left - n
/-- How many numbers the lists have together. -/
def tot (ls : List (List Int)) : Nat := (ls.map List.length).sum
theorem tot_snoc (ls : List (List Int)) (l : List Int) : tot (ls ++ [l]) = tot ls + l.length := by simp [tot]

theorem szIntS_ok {H : Hp} {v : Value} {l : List Int} {left : Int} (h : Sl cI H v l) (h0 : 0 ≤ left) (h1 : left ≤ 1048576) : acall Try.prog 70 [v, .int .i64 left] H (.int .i64 (szL l.length left)) H := by
  have hmx := h.max
  simp only [maxLen] at hmx
  refine CallK.eq (CallK.enter Try.func70 rfl rfl Try.ntmps70 Try.results70 rfl ?_)
  repeat' (first|refine wA ?_|refine wB ?_|refine wH ?_|refine wI ?_|refine wJ ?_|refine wC ?_|refine wD ?_|refine wE ?_|refine wF ?_|refine wG ?_|refine wK ?_|refine wL ?_|refine wM ?_|refine wN ?_|refine wO ?_|refine wP ?_|refine wQ ?_|refine wR ?_|refine wS ?_|refine wT ?_|refine wU ?_|refine wV ?_|refine wW ?_|refine wX ?_)
  refine Ops.cmp rfl rfl rfl (fun hc => ?_) (fun hc => ?_)
  · repeat' (first|refine wA ?_|refine wB ?_|refine wH ?_|refine wI ?_|refine wJ ?_|refine wC ?_|refine wD ?_|refine wE ?_|refine wF ?_|refine wG ?_|refine wK ?_|refine wL ?_|refine wM ?_|refine wN ?_|refine wO ?_|refine wP ?_|refine wQ ?_|refine wR ?_|refine wS ?_|refine wT ?_|refine wU ?_|refine wV ?_|refine wW ?_|refine wX ?_)
    refine Run.ret ⟨.inl rfl, ResK.tmp rfl (by conv => lhs; whnf) (ResK.nil ?_)⟩
    exact ⟨by unfold szL; rw [if_pos hc]; rfl, rfl⟩
  · repeat' (first|refine wA ?_|refine wB ?_|refine wH ?_|refine wI ?_|refine wJ ?_|refine wC ?_|refine wD ?_|refine wE ?_|refine wF ?_|refine wG ?_|refine wK ?_|refine wL ?_|refine wM ?_|refine wN ?_|refine wO ?_|refine wP ?_|refine wQ ?_|refine wR ?_|refine wS ?_|refine wT ?_|refine wU ?_|refine wV ?_|refine wW ?_|refine wX ?_)
    refine Run.ret ⟨.inl rfl, ResK.tmp rfl (by conv => lhs; whnf) (ResK.nil ?_)⟩
    exact ⟨by unfold szL; rw [if_neg hc]; rfl, rfl⟩

theorem szIntSS_ok {H : Hp} {v : Value} {ls : List (List Int)} {left : Int} (h : Sl (cL cI) H v ls) (h0 : 0 ≤ left) (h1 : left ≤ 1048576) :
    CallK Try.prog 43 [v, .int .i64 left] H (fun r H' => H' = H ∧ ∃ x : Int, r = .int .i64 x ∧ (x = -1 ∨ (0 ≤ x ∧ x + ls.length + tot ls = left))) := by
  have hmx := h.max
  simp only [maxLen] at hmx
  refine (CallK.enter Try.func43 rfl rfl Try.ntmps43 Try.results43 rfl ?_)
  repeat' (first|refine wA ?_|refine wB ?_|refine wH ?_|refine wI ?_|refine wJ ?_|refine wC ?_|refine wD ?_|refine wE ?_|refine wF ?_|refine wG ?_|refine wK ?_|refine wL ?_|refine wM ?_|refine wN ?_|refine wO ?_|refine wP ?_|refine wQ ?_|refine wR ?_|refine wS ?_|refine wT ?_|refine wU ?_|refine wV ?_|refine wW ?_|refine wX ?_)
  refine Ops.cmp rfl rfl rfl (fun hc => ?_) (fun hc => ?_)
  · repeat' (first|refine wA ?_|refine wB ?_|refine wH ?_|refine wI ?_|refine wJ ?_|refine wC ?_|refine wD ?_|refine wE ?_|refine wF ?_|refine wG ?_|refine wK ?_|refine wL ?_|refine wM ?_|refine wN ?_|refine wO ?_|refine wP ?_|refine wQ ?_|refine wR ?_|refine wS ?_|refine wT ?_|refine wU ?_|refine wV ?_|refine wW ?_|refine wX ?_)
    refine Run.ret ⟨.inl rfl, ResK.tmp rfl (by conv => lhs; whnf) (ResK.nil ?_)⟩
    exact ⟨rfl, -1, rfl, .inl rfl⟩
  · repeat' (first|refine wA ?_|refine wB ?_|refine wH ?_|refine wI ?_|refine wJ ?_|refine wC ?_|refine wD ?_|refine wE ?_|refine wF ?_|refine wG ?_|refine wK ?_|refine wL ?_|refine wM ?_|refine wN ?_|refine wO ?_|refine wP ?_|refine wQ ?_|refine wR ?_|refine wS ?_|refine wT ?_|refine wU ?_|refine wV ?_|refine wW ?_|refine wX ?_)
    refine Run.loopW (fun (a : Nat × Int) => ls.length - a.1) (fun a => up (up (up jk 0 v) 1 (.int .i64 a.2)) 5 (.int .i64 (a.1 : Int))) (fun _ => H) (fun a => a.1 ≤ ls.length ∧ 0 ≤ a.2 ∧ a.2 + ls.length + tot (ls.take a.1) = left) (0, left - ls.length) rfl (by repeat (first | exact Wk.jk | refine Wk.up rfl ?_)) ⟨by dsimp only; omega, by dsimp only; omega, by simp [tot]⟩ ?_
    rintro ⟨i, x⟩ ⟨hi, hx, ht⟩
    dsimp only at hi hx ht
    dsimp only
    repeat' (first|refine wA ?_|refine wB ?_|refine wH ?_|refine wI ?_|refine wJ ?_|refine wC ?_|refine wD ?_|refine wE ?_|refine wF ?_|refine wG ?_|refine wK ?_|refine wL ?_|refine wM ?_|refine wN ?_|refine wO ?_|refine wP ?_|refine wQ ?_|refine wR ?_|refine wS ?_|refine wT ?_|refine wU ?_|refine wV ?_|refine wW ?_|refine wX ?_)
    refine Ops.cmp rfl rfl rfl (fun hc2 => ?_) (fun hc2 => ?_)
    · repeat' (first|refine wA ?_|refine wB ?_|refine wH ?_|refine wI ?_|refine wJ ?_|refine wC ?_|refine wD ?_|refine wE ?_|refine wF ?_|refine wG ?_|refine wK ?_|refine wL ?_|refine wM ?_|refine wN ?_|refine wO ?_|refine wP ?_|refine wQ ?_|refine wR ?_|refine wS ?_|refine wT ?_|refine wU ?_|refine wV ?_|refine wW ?_|refine wX ?_)
      refine Ops.idx h rfl rfl (by omega) (by omega) (by kernel_rfl) (by kernel_rfl) fun pz u a ha hu => ?_
      have ha' : ls[i]? = some a := ha
      repeat' (first|refine wA ?_|refine wB ?_|refine wH ?_|refine wI ?_|refine wJ ?_|refine wC ?_|refine wD ?_|refine wE ?_|refine wF ?_|refine wG ?_|refine wK ?_|refine wL ?_|refine wM ?_|refine wN ?_|refine wO ?_|refine wP ?_|refine wQ ?_|refine wR ?_|refine wS ?_|refine wT ?_|refine wU ?_|refine wV ?_|refine wW ?_|refine wX ?_)
      refine Ops.callE (szIntS_ok (cL_at hu) hx (by omega)) ?_
      repeat' (first|refine wA ?_|refine wB ?_|refine wH ?_|refine wI ?_|refine wJ ?_|refine wC ?_|refine wD ?_|refine wE ?_|refine wF ?_|refine wG ?_|refine wK ?_|refine wL ?_|refine wM ?_|refine wN ?_|refine wO ?_|refine wP ?_|refine wQ ?_|refine wR ?_|refine wS ?_|refine wT ?_|refine wU ?_|refine wV ?_|refine wW ?_|refine wX ?_)
      refine Ops.cmp rfl rfl rfl (fun hc3 => ?_) (fun hc3 => ?_)
      · repeat' (first|refine wA ?_|refine wB ?_|refine wH ?_|refine wI ?_|refine wJ ?_|refine wC ?_|refine wD ?_|refine wE ?_|refine wF ?_|refine wG ?_|refine wK ?_|refine wL ?_|refine wM ?_|refine wN ?_|refine wO ?_|refine wP ?_|refine wQ ?_|refine wR ?_|refine wS ?_|refine wT ?_|refine wU ?_|refine wV ?_|refine wW ?_|refine wX ?_)
        refine Run.ret ⟨.inl rfl, ResK.tmp rfl (by conv => lhs; whnf) (ResK.nil ?_)⟩
        exact ⟨rfl, -1, rfl, .inl rfl⟩
      · repeat' (first|refine wA ?_|refine wB ?_|refine wH ?_|refine wI ?_|refine wJ ?_|refine wC ?_|refine wD ?_|refine wE ?_|refine wF ?_|refine wG ?_|refine wK ?_|refine wL ?_|refine wM ?_|refine wN ?_|refine wO ?_|refine wP ?_|refine wQ ?_|refine wR ?_|refine wS ?_|refine wT ?_|refine wU ?_|refine wV ?_|refine wW ?_|refine wX ?_)
        have e : szL a.length x = x - a.length := by
          unfold szL at hc3 ⊢
          split
          · rename_i h5; rw [if_pos h5] at hc3; omega
          · rfl
        rw [e] at hc3 ⊢
        refine ⟨(i + 1, x - a.length), by dsimp only; omega, rfl, rfl, by dsimp only; exact (by repeat (first | exact Wk.jk | refine Wk.up rfl ?_)), ?_⟩
        refine ⟨by dsimp only; omega, by dsimp only; omega, ?_⟩
        dsimp only
        rw [take_snoc ha', tot_snoc]; omega
    · repeat' (first|refine wA ?_|refine wB ?_|refine wH ?_|refine wI ?_|refine wJ ?_|refine wC ?_|refine wD ?_|refine wE ?_|refine wF ?_|refine wG ?_|refine wK ?_|refine wL ?_|refine wM ?_|refine wN ?_|refine wO ?_|refine wP ?_|refine wQ ?_|refine wR ?_|refine wS ?_|refine wT ?_|refine wU ?_|refine wV ?_|refine wW ?_|refine wX ?_)
      refine Run.ret ⟨.inl rfl, ResK.tmp rfl (by conv => lhs; whnf) (ResK.nil ?_)⟩
      rw [take_end (by omega)] at ht
      exact ⟨rfl, x, rfl, .inr ⟨hx, ht⟩⟩

theorem szOrbitSet_ok {H : Hp} {v : Value} {s : OS} {left : Int} (h : cOS.ok H (cellsOf v) s) (h0 : 0 ≤ left) (h1 : left ≤ 1048576) :
    CallK Try.prog 31 [v, .int .i64 left] H (fun r H' => Calm H H' ∧ ∃ x : Int, r = .int .i64 x ∧ (x = -1 ∨ (0 ≤ x ∧ x + s.consts.length + s.pats.length + tot s.pats = left))) := by
  have hone := cOS.one h
  obtain ⟨v1, v2, hcs, s1, s2⟩ := h
  refine (CallK.enter Try.func31 rfl rfl Try.ntmps31 Try.results31 rfl ?_)
  repeat' (first|refine wA ?_|refine wB ?_|refine wH ?_|refine wI ?_|refine wJ ?_|refine wC ?_|refine wD ?_|refine wE ?_|refine wF ?_|refine wG ?_|refine wK ?_|refine wL ?_|refine wM ?_|refine wN ?_|refine wO ?_|refine wP ?_|refine wQ ?_|refine wR ?_|refine wS ?_|refine wT ?_|refine wU ?_|refine wV ?_|refine wW ?_|refine wX ?_)
  refine Ops.box H.nxt (Nat.le_refl _) (one_known hone) hcs (by simp) fun p2 H1 o2 c1 ap2 => ?_
  repeat' (first|refine wA ?_|refine wB ?_|refine wH ?_|refine wI ?_|refine wJ ?_|refine wC ?_|refine wD ?_|refine wE ?_|refine wF ?_|refine wG ?_|refine wK ?_|refine wL ?_|refine wM ?_|refine wN ?_|refine wO ?_|refine wP ?_|refine wQ ?_|refine wR ?_|refine wS ?_|refine wT ?_|refine wU ?_|refine wV ?_|refine wW ?_|refine wX ?_)
  refine Ops.fld 1 o2.pt (by kernel_rfl) (by kernel_rfl) rfl fun pz => ?_
  repeat' (first|refine wA ?_|refine wB ?_|refine wH ?_|refine wI ?_|refine wJ ?_|refine wC ?_|refine wD ?_|refine wE ?_|refine wF ?_|refine wG ?_|refine wK ?_|refine wL ?_|refine wM ?_|refine wN ?_|refine wO ?_|refine wP ?_|refine wQ ?_|refine wR ?_|refine wS ?_|refine wT ?_|refine wU ?_|refine wV ?_|refine wW ?_|refine wX ?_)
  refine Ops.callE (szIntS_ok (s1.calm c1) h0 h1) ?_
  repeat' (first|refine wA ?_|refine wB ?_|refine wH ?_|refine wI ?_|refine wJ ?_|refine wC ?_|refine wD ?_|refine wE ?_|refine wF ?_|refine wG ?_|refine wK ?_|refine wL ?_|refine wM ?_|refine wN ?_|refine wO ?_|refine wP ?_|refine wQ ?_|refine wR ?_|refine wS ?_|refine wT ?_|refine wU ?_|refine wV ?_|refine wW ?_|refine wX ?_)
  refine Ops.cmp rfl rfl rfl (fun hc => ?_) (fun hc => ?_)
  · repeat' (first|refine wA ?_|refine wB ?_|refine wH ?_|refine wI ?_|refine wJ ?_|refine wC ?_|refine wD ?_|refine wE ?_|refine wF ?_|refine wG ?_|refine wK ?_|refine wL ?_|refine wM ?_|refine wN ?_|refine wO ?_|refine wP ?_|refine wQ ?_|refine wR ?_|refine wS ?_|refine wT ?_|refine wU ?_|refine wV ?_|refine wW ?_|refine wX ?_)
    refine Run.ret ⟨.inl rfl, ResK.tmp rfl (by conv => lhs; whnf) (ResK.nil ?_)⟩
    exact ⟨c1, -1, rfl, .inl rfl⟩
  · have e : szL s.consts.length left = left - s.consts.length := by
      unfold szL at hc ⊢
      split
      · rename_i h5; rw [if_pos h5] at hc; omega
      · rfl
    rw [e] at hc ⊢
    repeat' (first|refine wA ?_|refine wB ?_|refine wH ?_|refine wI ?_|refine wJ ?_|refine wC ?_|refine wD ?_|refine wE ?_|refine wF ?_|refine wG ?_|refine wK ?_|refine wL ?_|refine wM ?_|refine wN ?_|refine wO ?_|refine wP ?_|refine wQ ?_|refine wR ?_|refine wS ?_|refine wT ?_|refine wU ?_|refine wV ?_|refine wW ?_|refine wX ?_)
    refine Ops.fld 2 o2.pt (by kernel_rfl) (by kernel_rfl) rfl fun pz => ?_
    repeat' (first|refine wA ?_|refine wB ?_|refine wH ?_|refine wI ?_|refine wJ ?_|refine wC ?_|refine wD ?_|refine wE ?_|refine wF ?_|refine wG ?_|refine wK ?_|refine wL ?_|refine wM ?_|refine wN ?_|refine wO ?_|refine wP ?_|refine wQ ?_|refine wR ?_|refine wS ?_|refine wT ?_|refine wU ?_|refine wV ?_|refine wW ?_|refine wX ?_)
    refine Ops.call (szIntSS_ok (s2.calm c1) (by omega) (by omega)) (fun _ _ h _ => by rw [h.1]; exact GE.refl' _) fun r H2 => ?_
    rintro ⟨rfl, x, rfl, hx⟩
    repeat' (first|refine wA ?_|refine wB ?_|refine wH ?_|refine wI ?_|refine wJ ?_|refine wC ?_|refine wD ?_|refine wE ?_|refine wF ?_|refine wG ?_|refine wK ?_|refine wL ?_|refine wM ?_|refine wN ?_|refine wO ?_|refine wP ?_|refine wQ ?_|refine wR ?_|refine wS ?_|refine wT ?_|refine wU ?_|refine wV ?_|refine wW ?_|refine wX ?_)
    refine Ops.cmp rfl rfl rfl (fun hc2 => ?_) (fun hc2 => ?_)
    · repeat' (first|refine wA ?_|refine wB ?_|refine wH ?_|refine wI ?_|refine wJ ?_|refine wC ?_|refine wD ?_|refine wE ?_|refine wF ?_|refine wG ?_|refine wK ?_|refine wL ?_|refine wM ?_|refine wN ?_|refine wO ?_|refine wP ?_|refine wQ ?_|refine wR ?_|refine wS ?_|refine wT ?_|refine wU ?_|refine wV ?_|refine wW ?_|refine wX ?_)
      refine Run.ret ⟨.inl rfl, ResK.tmp rfl (by conv => lhs; whnf) (ResK.nil ?_)⟩
      exact ⟨c1, -1, rfl, .inl rfl⟩
    · repeat' (first|refine wA ?_|refine wB ?_|refine wH ?_|refine wI ?_|refine wJ ?_|refine wC ?_|refine wD ?_|refine wE ?_|refine wF ?_|refine wG ?_|refine wK ?_|refine wL ?_|refine wM ?_|refine wN ?_|refine wO ?_|refine wP ?_|refine wQ ?_|refine wR ?_|refine wS ?_|refine wT ?_|refine wU ?_|refine wV ?_|refine wW ?_|refine wX ?_)
      refine Run.ret ⟨.inl rfl, ResK.tmp rfl (by conv => lhs; whnf) (ResK.nil ?_)⟩
      refine ⟨c1, x, rfl, ?_⟩
      rcases hx with hx | ⟨hx, ht⟩
      · exact .inl hx
      · exact .inr ⟨hx, by omega⟩

end Go.Proofs.Ytefmjpbmdoebaaa

/- Copies of lists of lists, and of sets of orbits. -/
set_option linter.unusedVariables false
namespace Go.Proofs.Ytefmjpbmdoebaaa
open Go Go.RowKit

theorem fps_rep {α : Type} (n : Nat) : fps (List.replicate n (([], []) : List α × List Nat)) = [] := by
  induction n with
  | zero => rfl
  | succ n ih => rw [List.replicate_succ]; simp [fps]

theorem toIntSS_ok {H : Hp} {v : Value} {ls : List (List Int)} (h : Sl (cL cI) H v ls) (hl : ls.length ≤ 1048576) (hl2 : ∀ l ∈ ls, l.length ≤ 1048576) :
    CallK Try.prog 45 [v] H (fun r H' => Calm H H' ∧ ∃ ms, OAc cI 3 24 H.nxt H' r ms ∧ ms.map (·.1) = ls) := by
  refine (CallK.enter Try.func45 rfl rfl Try.ntmps45 Try.results45 rfl ?_)
  repeat' (first|refine wA ?_|refine wB ?_|refine wH ?_|refine wI ?_|refine wJ ?_|refine wC ?_|refine wD ?_|refine wE ?_|refine wF ?_|refine wG ?_|refine wK ?_|refine wL ?_|refine wM ?_|refine wN ?_|refine wO ?_|refine wP ?_|refine wQ ?_|refine wR ?_|refine wS ?_|refine wT ?_|refine wU ?_|refine wV ?_|refine wW ?_|refine wX ?_)
  refine Ops.make (q := ls.length) (a := (([], []) : List Int × List Nat)) (z0 := .slice none 0 0) (cF cI 3) 24 H.nxt (by kernel_rfl) (fun _ => ⟨nilS, rfl, Sl.nil, .inl ⟨rfl, rfl⟩⟩) rfl rfl (by kernel_rfl) (by kernel_rfl) (Nat.le_refl _) (by show ls.length * 1 ≤ _; omega) (by omega) fun uo H1 a1 c1 p1 => ?_
  repeat' (first|refine wA ?_|refine wB ?_|refine wH ?_|refine wI ?_|refine wJ ?_|refine wC ?_|refine wD ?_|refine wE ?_|refine wF ?_|refine wG ?_|refine wK ?_|refine wL ?_|refine wM ?_|refine wN ?_|refine wO ?_|refine wP ?_|refine wQ ?_|refine wR ?_|refine wS ?_|refine wT ?_|refine wU ?_|refine wV ?_|refine wW ?_|refine wX ?_)
  refine Run.loopW (fun (a : Nat × Hp × List (List Int × List Nat)) => ls.length - a.1) (fun a => up (up (up jk 0 v) 3 uo) 4 (.int .i64 (a.1 : Int))) (fun a => a.2.1)
    (fun a => a.1 ≤ ls.length ∧ Calm H a.2.1 ∧ Ac (cF cI 3) 24 H.nxt a.2.1 uo (a.2.2 ++ List.replicate (ls.length - a.1) ([], [])) ∧ Own H.nxt a.2.1 (fps a.2.2) ∧ (fps a.2.2).Nodup ∧ (∀ id, idOf uo = some id → id ∉ fps a.2.2) ∧ a.2.2.map (·.1) = ls.take a.1) (0, H1, []) rfl (by repeat (first | exact Wk.jk | refine Wk.up rfl ?_))
    ⟨by dsimp only; omega, c1, by simpa using a1, Own.nil, List.nodup_nil, fun id _ h => (by cases h), by simp⟩ ?_
  rintro ⟨i, H2, ms⟩ ⟨hi, c2, a2, own, nd, ni, hm⟩
  dsimp only at hi c2 a2 own nd ni hm
  dsimp only
  have s2 := h.calm c2
  have hml : ms.length = i := by
    have e := congrArg List.length hm
    rw [List.length_map, List.length_take] at e; omega
  repeat' (first|refine wA ?_|refine wB ?_|refine wH ?_|refine wI ?_|refine wJ ?_|refine wC ?_|refine wD ?_|refine wE ?_|refine wF ?_|refine wG ?_|refine wK ?_|refine wL ?_|refine wM ?_|refine wN ?_|refine wO ?_|refine wP ?_|refine wQ ?_|refine wR ?_|refine wS ?_|refine wT ?_|refine wU ?_|refine wV ?_|refine wW ?_|refine wX ?_)
  refine Ops.cmp rfl rfl rfl (fun hc => ?_) (fun hc => ?_)
  · repeat' (first|refine wA ?_|refine wB ?_|refine wH ?_|refine wI ?_|refine wJ ?_|refine wC ?_|refine wD ?_|refine wE ?_|refine wF ?_|refine wG ?_|refine wK ?_|refine wL ?_|refine wM ?_|refine wN ?_|refine wO ?_|refine wP ?_|refine wQ ?_|refine wR ?_|refine wS ?_|refine wT ?_|refine wU ?_|refine wV ?_|refine wW ?_|refine wX ?_)
    refine Ops.idx s2 rfl rfl (by omega) (by omega) (by kernel_rfl) (by kernel_rfl) fun pz u a ha hu => ?_
    have ha' : ls[i]? = some a := ha
    have hmem := List.mem_of_getElem? ha'
    repeat' (first|refine wA ?_|refine wB ?_|refine wH ?_|refine wI ?_|refine wJ ?_|refine wC ?_|refine wD ?_|refine wE ?_|refine wF ?_|refine wG ?_|refine wK ?_|refine wL ?_|refine wM ?_|refine wN ?_|refine wO ?_|refine wP ?_|refine wQ ?_|refine wR ?_|refine wS ?_|refine wT ?_|refine wU ?_|refine wV ?_|refine wW ?_|refine wX ?_)
    refine Ops.call (toIntS_ok (cL_at hu) (hl2 a hmem)) (fun _ _ h _ => h.1.ge') fun w H3 => ?_
    rintro ⟨c3, wa⟩
    obtain ⟨F, f1, f2, f3, f4⟩ := wa.rw_
    have a3 := a2.calm c3
    have own3 := own.calm c3
    have hne : ms ++ List.replicate (ls.length - i) (([], []) : List Int × List Nat) ≠ [] := fun e => by
      have e := congrArg List.length e
      simp at e; omega
    obtain ⟨r, hqr, hr⟩ := a3.rt hne
    have hd1 : ∀ f ∈ F, f ∉ fps ms := fresh_not own (Nat.le_refl _) f2
    have hd2 : ∀ id, idOf uo = some id → id ∉ F := fresh_ne a2.live (Nat.le_refl _) f2
    refine Ops.set (r := r) (a := (a, F)) a3 hr rfl (by omega) (by simp; omega) (cF_of f1) (by simp) (by kernel_rfl) (by kernel_rfl) (fun H' hmod cs b hb hok => ?_) fun p H4 hm4 a4 => ?_
    · obtain ⟨z, hz, hrw⟩ := hok
      refine ⟨z, hz, ?_⟩
      obtain ⟨idu, g1, g2, g3, g4⟩ := hr
      have hbo : Own H.nxt H3 b.2 ∧ ∀ f ∈ b.2, f ∉ [idu] := by
        rcases hb with hb | hb
        · rcases List.mem_append.1 hb with hb | hb
          · refine ⟨fun f hf => own3 f (List.mem_flatMap.2 ⟨b, hb, hf⟩), fun f hf h5 => ?_⟩
            obtain rfl := List.mem_singleton.1 h5
            exact ni f g1 (List.mem_flatMap.2 ⟨b, hb, hf⟩)
          · obtain ⟨_, rfl⟩ := List.mem_replicate.1 hb
            exact ⟨Own.nil, fun f hf => by cases hf⟩
        · subst hb
          refine ⟨f2.older c2.1, fun f hf h5 => ?_⟩
          obtain rfl := List.mem_singleton.1 h5
          exact hd2 f g1 hf
      refine Rw.modS (H := H3) (H' := H') (k := H.nxt) (k' := 0) (fun _ _ _ h => h) hrw hbo.1 (G := [idu]) (fun f hf => ?_) hbo.2 ?_
      · obtain rfl := List.mem_singleton.1 hf
        exact ⟨g2, g3, Nat.zero_le _⟩
      · rw [← g4] at hmod; exact hmod.toS
    · repeat' (first|refine wA ?_|refine wB ?_|refine wH ?_|refine wI ?_|refine wJ ?_|refine wC ?_|refine wD ?_|refine wE ?_|refine wF ?_|refine wG ?_|refine wK ?_|refine wL ?_|refine wM ?_|refine wN ?_|refine wO ?_|refine wP ?_|refine wQ ?_|refine wR ?_|refine wS ?_|refine wT ?_|refine wU ?_|refine wV ?_|refine wW ?_|refine wX ?_)
      refine ⟨(i + 1, H4, ms ++ [(a, F)]), by dsimp only; omega, rfl, rfl, by dsimp only; exact (by repeat (first | exact Wk.jk | refine Wk.up rfl ?_)), ?_⟩
      have e1 : (ms ++ List.replicate (ls.length - i) (([], []) : List Int × List Nat)).set i (a, F) = (ms ++ [(a, F)]) ++ List.replicate (ls.length - (i + 1)) ([], []) := by
        have : ls.length - i = (ls.length - (i + 1)) + 1 := by omega
        rw [this, List.replicate_succ, List.set_append_right _ _ (by omega), hml, Nat.sub_self]
        simp
      have a4' : Ac (cF cI 3) 24 H.nxt H4 uo ((ms ++ List.replicate (ls.length - i) (([], []) : List Int × List Nat)).set i (a, F)) := a4
      rw [e1] at a4'
      refine ⟨by dsimp only; omega, hm4.calm (c2.trans c3) hqr, a4', ?_, ?_, fun id hid hf => ?_, ?_⟩
      · show Own _ _ (fps (ms ++ [(a, F)]))
        rw [fps_append, fps_one]
        exact (own3.append (f2.older c2.1)).mod hm4
      · show (fps (ms ++ [(a, F)])).Nodup
        rw [fps_append, fps_one, List.nodup_append]
        exact ⟨nd, f3, fun x hx y hy e => hd1 y hy (e ▸ hx)⟩
      · have hf' : id ∈ fps (ms ++ [(a, F)]) := hf
        rw [fps_append, fps_one] at hf'
        rcases List.mem_append.1 hf' with h5 | h5
        · exact ni id hid h5
        · exact hd2 id hid h5
      · show (ms ++ [(a, F)]).map (·.1) = ls.take (i + 1)
        rw [List.map_append, hm, take_snoc ha']; rfl
  · repeat' (first|refine wA ?_|refine wB ?_|refine wH ?_|refine wI ?_|refine wJ ?_|refine wC ?_|refine wD ?_|refine wE ?_|refine wF ?_|refine wG ?_|refine wK ?_|refine wL ?_|refine wM ?_|refine wN ?_|refine wO ?_|refine wP ?_|refine wQ ?_|refine wR ?_|refine wS ?_|refine wT ?_|refine wU ?_|refine wV ?_|refine wW ?_|refine wX ?_)
    refine Run.ret ⟨.inl rfl, ResK.tmp rfl (by conv => lhs; whnf) (ResK.nil ?_)⟩
    have hil : i = ls.length := by omega
    subst hil
    rw [List.take_length] at hm
    rw [Nat.sub_self, List.replicate_zero, List.append_nil] at a2
    exact ⟨c2, ms, ⟨a2, own, nd, ni⟩, hm⟩

end Go.Proofs.Ytefmjpbmdoebaaa

/- Sets of orbits: comparison and copies. -/
set_option linter.unusedVariables false
namespace Go.Proofs.Ytefmjpbmdoebaaa
open Go Go.RowKit

theorem eqOrbitSet_ok {H : Hp} {v w : Value} {s : OS} (h1 : cOS.ok H (cellsOf v) s) (h2 : cOS.ok H (cellsOf w) s) :
    CallK Try.prog 35 [v, w] H (fun r H' => Calm H H' ∧ r = .bool true) := by
  have hone1 := cOS.one h1
  have hone2 := cOS.one h2
  obtain ⟨v1, v2, hcs, s1, s2⟩ := h1
  obtain ⟨w1, w2, hds, t1, t2⟩ := h2
  refine (CallK.enter Try.func35 rfl rfl Try.ntmps35 Try.results35 rfl ?_)
  repeat' (first|refine wA ?_|refine wB ?_|refine wH ?_|refine wI ?_|refine wJ ?_|refine wC ?_|refine wD ?_|refine wE ?_|refine wF ?_|refine wG ?_|refine wK ?_|refine wL ?_|refine wM ?_|refine wN ?_|refine wO ?_|refine wP ?_|refine wQ ?_|refine wR ?_|refine wS ?_|refine wT ?_|refine wU ?_|refine wV ?_|refine wW ?_|refine wX ?_)
  refine Ops.box H.nxt (Nat.le_refl _) (one_known hone1) hcs (by simp) fun p2 H1 o2 c1 ap2 => ?_
  refine Ops.box H.nxt c1.1 (one_known hone2) hds (by simp) fun p3 H2 o3 c2 ap3 => ?_
  have c12 := c1.trans c2
  have o2 := o2.calm c2
  repeat' (first|refine wA ?_|refine wB ?_|refine wH ?_|refine wI ?_|refine wJ ?_|refine wC ?_|refine wD ?_|refine wE ?_|refine wF ?_|refine wG ?_|refine wK ?_|refine wL ?_|refine wM ?_|refine wN ?_|refine wO ?_|refine wP ?_|refine wQ ?_|refine wR ?_|refine wS ?_|refine wT ?_|refine wU ?_|refine wV ?_|refine wW ?_|refine wX ?_)
  refine Ops.fld 0 o2.pt (by kernel_rfl) (by kernel_rfl) rfl fun pz => ?_
  refine Ops.fld 0 o3.pt (by kernel_rfl) (by kernel_rfl) rfl fun pz => ?_
  refine Ops.cmpn rfl rfl (fun hc => ?_) (fun hc => ?_)
  · contradiction
  · repeat' (first|refine wA ?_|refine wB ?_|refine wH ?_|refine wI ?_|refine wJ ?_|refine wC ?_|refine wD ?_|refine wE ?_|refine wF ?_|refine wG ?_|refine wK ?_|refine wL ?_|refine wM ?_|refine wN ?_|refine wO ?_|refine wP ?_|refine wQ ?_|refine wR ?_|refine wS ?_|refine wT ?_|refine wU ?_|refine wV ?_|refine wW ?_|refine wX ?_)
    refine Ops.fld 1 o2.pt (by kernel_rfl) (by kernel_rfl) rfl fun pz => ?_
    refine Ops.fld 1 o3.pt (by kernel_rfl) (by kernel_rfl) rfl fun pz => ?_
    refine Ops.callB (eqIntS_ok (s1.calm c12) (t1.calm c12)) (fun hc2 => ?_) (fun hc2 => ?_)
    · repeat' (first|refine wA ?_|refine wB ?_|refine wH ?_|refine wI ?_|refine wJ ?_|refine wC ?_|refine wD ?_|refine wE ?_|refine wF ?_|refine wG ?_|refine wK ?_|refine wL ?_|refine wM ?_|refine wN ?_|refine wO ?_|refine wP ?_|refine wQ ?_|refine wR ?_|refine wS ?_|refine wT ?_|refine wU ?_|refine wV ?_|refine wW ?_|refine wX ?_)
      refine Ops.fld 2 o2.pt (by kernel_rfl) (by kernel_rfl) rfl fun pz => ?_
      refine Ops.fld 2 o3.pt (by kernel_rfl) (by kernel_rfl) rfl fun pz => ?_
      refine Ops.callB (eqIntSS_ok (s2.calm c12) (t2.calm c12)) (fun hc3 => ?_) (fun hc3 => ?_)
      · repeat' (first|refine wA ?_|refine wB ?_|refine wH ?_|refine wI ?_|refine wJ ?_|refine wC ?_|refine wD ?_|refine wE ?_|refine wF ?_|refine wG ?_|refine wK ?_|refine wL ?_|refine wM ?_|refine wN ?_|refine wO ?_|refine wP ?_|refine wQ ?_|refine wR ?_|refine wS ?_|refine wT ?_|refine wU ?_|refine wV ?_|refine wW ?_|refine wX ?_)
        refine Run.ret ⟨.inl rfl, ResK.tmp rfl (by conv => lhs; whnf) (ResK.nil ?_)⟩
        exact ⟨c12, rfl⟩
      · simp at hc3
    · simp at hc2

end Go.Proofs.Ytefmjpbmdoebaaa

/- Sets of orbits: copies of them. -/
set_option linter.unusedVariables false
namespace Go.Proofs.Ytefmjpbmdoebaaa
open Go Go.RowKit

/-- A set of orbits that owns its rows. -/
def OO (k : Nat) (H : Hp) (r : Value) (s : OS) (ms : List (List Int × List Nat)) : Prop :=
  ∃ u1 u2, r = .agg #[.int .i64 s.width, u1, u2] ∧ Ac cI 3 k H u1 s.consts ∧ OAc cI 3 24 k H u2 ms ∧ ms.map (·.1) = s.pats ∧ Ap u1 u2 ∧ ∀ id, idOf u1 = some id → id ∉ fps ms

theorem OO.os {k : Nat} {H : Hp} {r : Value} {s : OS} {ms : List (List Int × List Nat)} (h : OO k H r s ms) : cOS.ok H (cellsOf r) s := by
  obtain ⟨u1, u2, rfl, h1, h2, h3, _⟩ := h
  refine ⟨u1, u2, rfl, h1.sl, ?_⟩
  rw [← h3]
  exact h2.ac.sl.forget

theorem OO.calm {k : Nat} {H H' : Hp} {r : Value} {s : OS} {ms : List (List Int × List Nat)} (h : OO k H r s ms) (hc : Calm H H') : OO k H' r s ms := by
  obtain ⟨u1, u2, h0, h1, h2, h3⟩ := h
  exact ⟨u1, u2, h0, h1.calm hc, h2.calm hc, h3⟩

/-- How big a set of orbits may be. -/
def osOK (s : OS) : Prop := s.consts.length ≤ 1048576 ∧ s.pats.length ≤ 1048576 ∧ (∀ l ∈ s.pats, l.length ≤ 1048576) ∧ tot s.pats ≤ 1048576

theorem OAc.older {α : Type} {c : Cd α} {e e' k k' : Nat} {H : Hp} {v : Value} {ls : List (List α × List Nat)} (h : OAc c e e' k H v ls) (hk : k' ≤ k) : OAc c e e' k' H v ls := ⟨h.ac.older hk, h.own.older hk, h.nd, h.ni⟩

theorem Ac.cells1 {α : Type} {c : Cd α} {e k : Nat} {H : Hp} {v : Value} {l : List α} (h : Ac c e k H v l) : cellsOf v = [v] ∧ Value.one v = true := by
  obtain ⟨p, hp⟩ := h.sl.val
  rw [hp]; exact ⟨rfl, rfl⟩

theorem Po.live {k : Nat} {H : Hp} {v : Value} {cs : List Value} (h : Po k H v cs) : Live H v := h.pt.live

theorem OAc.modS' {α : Type} {c : Cd α} {e e' k r : Nat} {H H' : Hp} {v u : Value} {ls : List (List α × List Nat)} (hc : ∀ {H H' : Hp} {cs : List Value} {a : α}, c.ok H cs a → c.ok H' cs a) (h : OAc c e e' k H v ls) (hr : Rt H u r) (hm : Mod r H H') (hp : Ap v u) (hn : ∀ id, idOf u = some id → id ∉ fps ls) : OAc c e e' k H' v ls := by
  obtain ⟨idu, g1, g2, g3, g4⟩ := hr
  refine ⟨h.ac.mod ⟨idu, g1, g2, g3, g4⟩ hp hm ?_, h.own.mod hm, h.nd, h.ni⟩
  rintro cs ⟨l, F⟩ ha ⟨z, hz, hw⟩
  refine ⟨z, hz, Rw.modS (H := H) (H' := H') (k := k) (k' := 0) (fun _ _ _ h => hc h) hw (fun f hf => h.own f (List.mem_flatMap.2 ⟨_, ha, hf⟩)) (G := [idu]) (fun f hf => ?_) (fun f hf h5 => ?_) ?_⟩
  · obtain rfl := List.mem_singleton.1 hf
    exact ⟨g2, g3, Nat.zero_le _⟩
  · obtain rfl := List.mem_singleton.1 h5
    exact hn f g1 (List.mem_flatMap.2 ⟨_, ha, hf⟩)
  · rw [← g4] at hm; exact hm.toS

theorem Po.mod {k r : Nat} {H H' : Hp} {v u : Value} {cs : List Value} (h : Po k H v cs) (hr : Rt H u r) (hp : Ap v u) (hm : Mod r H H') : Po k H' v cs := by
  obtain ⟨id, ob, h1, h2, h3, h4, h5⟩ := h
  obtain ⟨idu, g1, g2, g3, g4⟩ := hr
  have hlt := Hp.lt h2
  refine ⟨id, ob, h1, (hm.get id hlt fun e => ?_).trans h2, h3, (hm.own id hlt).1.trans h4, by rw [(hm.own id hlt).2]; exact h5⟩
  have := H.ou id idu hlt g2 h4 g3 (by rw [e, g4])
  subst this
  exact hp id (by rw [h1]; rfl) g1

theorem toOrbitSet_ok {H : Hp} {v : Value} {s : OS} (h : cOS.ok H (cellsOf v) s) (hs : osOK s) :
    CallK Try.prog 33 [v] H (fun r H' => Calm H H' ∧ ∃ ms, OO H.nxt H' r s ms) := by
  have hone := cOS.one h
  obtain ⟨v1, v2, hcs, s1, s2⟩ := h
  refine (CallK.enter Try.func33 rfl rfl Try.ntmps33 Try.results33 rfl ?_)
  repeat' (first|refine wA ?_|refine wB ?_|refine wH ?_|refine wI ?_|refine wJ ?_|refine wC ?_|refine wD ?_|refine wE ?_|refine wF ?_|refine wG ?_|refine wK ?_|refine wL ?_|refine wM ?_|refine wN ?_|refine wO ?_|refine wP ?_|refine wQ ?_|refine wR ?_|refine wS ?_|refine wT ?_|refine wU ?_|refine wV ?_|refine wW ?_|refine wX ?_)
  refine Ops.box H.nxt (Nat.le_refl _) (one_known hone) hcs (by simp) fun p1 H1 o1 c1 ap1 => ?_
  refine Ops.alloc H.nxt c1.1 (z0 := .agg #[.int .i64 0, nilS, nilS]) (by kernel_rfl) (by rfl) (by decide) fun p2 H2 o2 c2 ap2 => ?_
  repeat' (first|refine wA ?_|refine wB ?_|refine wH ?_|refine wI ?_|refine wJ ?_|refine wC ?_|refine wD ?_|refine wE ?_|refine wF ?_|refine wG ?_|refine wK ?_|refine wL ?_|refine wM ?_|refine wN ?_|refine wO ?_|refine wP ?_|refine wQ ?_|refine wR ?_|refine wS ?_|refine wT ?_|refine wU ?_|refine wV ?_|refine wW ?_|refine wX ?_)
  have c12 := c1.trans c2
  refine Ops.alloc H.nxt c12.1 (z0 := .agg #[.int .i64 0, nilS, nilS]) (by kernel_rfl) (by rfl) (by decide) fun p3 H3 o3 c3 ap3 => ?_
  repeat' (first|refine wA ?_|refine wB ?_|refine wH ?_|refine wI ?_|refine wJ ?_|refine wC ?_|refine wD ?_|refine wE ?_|refine wF ?_|refine wG ?_|refine wK ?_|refine wL ?_|refine wM ?_|refine wN ?_|refine wO ?_|refine wP ?_|refine wQ ?_|refine wR ?_|refine wS ?_|refine wT ?_|refine wU ?_|refine wV ?_|refine wW ?_|refine wX ?_)
  have c13 := c12.trans c3
  have q12 : Ap p1 p2 := ap2 p1 o1.live
  have q13 : Ap p1 p3 := ap3 p1 (o1.calm c2).live
  have q23 : Ap p2 p3 := ap3 p2 o2.live
  have o1 := (o1.calm c2).calm c3
  have o2 := o2.calm c3
  have l1 := s1.calm c13
  have l2 := s2.calm c13
  obtain ⟨r3, hr3, t3⟩ := o3.rt
  obtain ⟨r2, hr2, t2⟩ := o2.rt
  refine Ops.fld 0 o1.pt (by kernel_rfl) (by kernel_rfl) rfl fun pz => ?_
  refine Ops.setf 0 o3 t3 (by kernel_rfl) (by kernel_rfl) rfl (by simp) rfl rfl (by simp [cellsOf]) fun pz H4 m4 o3 => ?_
  repeat' (first|refine wA ?_|refine wB ?_|refine wH ?_|refine wI ?_|refine wJ ?_|refine wC ?_|refine wD ?_|refine wE ?_|refine wF ?_|refine wG ?_|refine wK ?_|refine wL ?_|refine wM ?_|refine wN ?_|refine wO ?_|refine wP ?_|refine wQ ?_|refine wR ?_|refine wS ?_|refine wT ?_|refine wU ?_|refine wV ?_|refine wW ?_|refine wX ?_)
  have c4 := m4.calm c13 hr3
  have o1 := o1.mod t3 q13 m4
  have o2 := o2.mod t3 q23 m4
  have t2 := t2.mod m4
  have t3 := t3.mod m4
  refine Ops.fld 1 o1.pt (by kernel_rfl) (by kernel_rfl) rfl fun pz => ?_
  refine Ops.call (toIntS_ok (s1.calm c4) hs.1) (fun _ _ h _ => h.1.ge') fun u1 H5 => ?_
  rintro ⟨c5, a1⟩
  have pu3 : Ap u1 p3 := (a1.ap (Nat.le_refl _) o3.live).symm
  have pu2 : Ap u1 p2 := (a1.ap (Nat.le_refl _) o2.live).symm
  have a1 := a1.older (k' := H.nxt) c4.1
  have c5' := c4.trans c5
  have o1 := o1.calm c5
  have o2 := o2.calm c5
  have o3 := o3.calm c5
  have t2 := t2.calm c5
  have t3 := t3.calm c5
  refine Ops.setf 1 o3 t3 (by kernel_rfl) (by kernel_rfl) rfl (by simp) a1.cells1.1 a1.cells1.2 (by simp [cellsOf]) fun pz H6 m6 o3 => ?_
  repeat' (first|refine wA ?_|refine wB ?_|refine wH ?_|refine wI ?_|refine wJ ?_|refine wC ?_|refine wD ?_|refine wE ?_|refine wF ?_|refine wG ?_|refine wK ?_|refine wL ?_|refine wM ?_|refine wN ?_|refine wO ?_|refine wP ?_|refine wQ ?_|refine wR ?_|refine wS ?_|refine wT ?_|refine wU ?_|refine wV ?_|refine wW ?_|refine wX ?_)
  have c6 := m6.calm c5' hr3
  have o1 := o1.mod t3 q13 m6
  have o2 := o2.mod t3 q23 m6
  have a1 := a1.mod t3 pu3 m6 (fun _ _ _ h => h)
  have t2 := t2.mod m6
  have t3 := t3.mod m6
  refine Ops.fld 2 o1.pt (by kernel_rfl) (by kernel_rfl) rfl fun pz => ?_
  refine Ops.call (toIntSS_ok (s2.calm c6) hs.2.1 hs.2.2.1) (fun _ _ h _ => h.1.ge') fun u2 H7 => ?_
  rintro ⟨c7, ms, a2, hms⟩
  have pv3 : Ap u2 p3 := (a2.ac.ap (Nat.le_refl _) o3.live).symm
  have pv2 : Ap u2 p2 := (a2.ac.ap (Nat.le_refl _) o2.live).symm
  have pv1 : Ap u1 u2 := a2.ac.ap (Nat.le_refl _) a1.live
  have f3 : ∀ id, idOf p3 = some id → id ∉ fps ms := fresh_ne o3.live (Nat.le_refl _) a2.own
  have f2 : ∀ id, idOf p2 = some id → id ∉ fps ms := fresh_ne o2.live (Nat.le_refl _) a2.own
  have f1 : ∀ id, idOf u1 = some id → id ∉ fps ms := fresh_ne a1.live (Nat.le_refl _) a2.own
  have c7' := c6.trans c7
  have a1 := a1.calm c7
  have a2 := a2.older c6.1
  have o2 := o2.calm c7
  have o3 := o3.calm c7
  have t2 := t2.calm c7
  have t3 := t3.calm c7
  refine Ops.setf 2 o3 t3 (by kernel_rfl) (by kernel_rfl) rfl (by simp) a2.ac.cells1.1 a2.ac.cells1.2 (by simp [cellsOf]) fun pz H8 m8 o3 => ?_
  repeat' (first|refine wA ?_|refine wB ?_|refine wH ?_|refine wI ?_|refine wJ ?_|refine wC ?_|refine wD ?_|refine wE ?_|refine wF ?_|refine wG ?_|refine wK ?_|refine wL ?_|refine wM ?_|refine wN ?_|refine wO ?_|refine wP ?_|refine wQ ?_|refine wR ?_|refine wS ?_|refine wT ?_|refine wU ?_|refine wV ?_|refine wW ?_|refine wX ?_)
  have c8 := m8.calm c7' hr3
  have o2 := o2.mod t3 q23 m8
  have a1 := a1.mod t3 pu3 m8 (fun _ _ _ h => h)
  have a2 := a2.modS' (fun h => h) t3 m8 pv3 f3
  have t2 := t2.mod m8
  refine Ops.loadS o3.pt (by kernel_rfl) (by kernel_rfl) ?_
  refine Ops.storeS (ds := [.int .i64 s.width, u1, u2]) o2 t2 rfl (by kernel_rfl) rfl (by rw [List.all_cons, List.all_cons, List.all_cons, a1.cells1.2, a2.ac.cells1.2]; rfl) fun H9 m9 o2 => ?_
  repeat' (first|refine wA ?_|refine wB ?_|refine wH ?_|refine wI ?_|refine wJ ?_|refine wC ?_|refine wD ?_|refine wE ?_|refine wF ?_|refine wG ?_|refine wK ?_|refine wL ?_|refine wM ?_|refine wN ?_|refine wO ?_|refine wP ?_|refine wQ ?_|refine wR ?_|refine wS ?_|refine wT ?_|refine wU ?_|refine wV ?_|refine wW ?_|refine wX ?_)
  have c9 := m9.calm c8 hr2
  have a1 := a1.mod t2 pu2 m9 (fun _ _ _ h => h)
  have a2 := a2.modS' (fun h => h) t2 m9 pv2 f2
  refine Run.ret ⟨.inl rfl, ResK.cells rfl o2.pt (by kernel_rfl) (by kernel_rfl) (ResK.nil ?_)⟩
  exact ⟨c9, ms, u1, u2, rfl, a1, a2, hms, pv1, f1⟩

end Go.Proofs.Ytefmjpbmdoebaaa

/- The program's patterns of a width. -/
set_option linter.unusedVariables false
namespace Go.Proofs.Ytefmjpbmdoebaaa
open Go Go.RowKit

def topOf (k : Int) (p : List Int) : Int := p.foldl (fun t n => max t (n + 1)) k
def longerL (k : Int) (p : List Int) : List (List Int) := (List.range (topOf k p + 1).toNat).map fun (n : Nat) => p ++ [(n : Int)]
def pats (k : Int) : Nat → List (List Int)
  | 0 => [[]]
  | w + 1 => (pats k w).flatMap (longerL k)
def patsOf (w k : Int) : List (List Int) := if 0 ≤ w ∧ w ≤ 4 ∧ 0 ≤ k ∧ k ≤ 3 then pats k w.toNat else []

theorem topOf_snoc (k : Int) (p : List Int) (a : Int) : topOf k (p ++ [a]) = max (topOf k p) (a + 1) := by simp [topOf]
theorem topOf_le {k b : Int} : ∀ {p : List Int}, k ≤ b → (∀ n ∈ p, n + 1 ≤ b) → topOf k p ≤ b := by
  intro p
  unfold topOf
  induction p generalizing k with
  | nil => intro h _; exact h
  | cons a t ih =>
    intro h1 h2
    exact ih (by have := h2 a (by simp); show max k (a + 1) ≤ b; omega) fun n hn => h2 n (by simp [hn])
theorem topOf_ge {k : Int} : ∀ {p : List Int}, k ≤ topOf k p := by
  intro p
  unfold topOf
  induction p generalizing k with
  | nil => simp
  | cons a t ih => exact Int.le_trans (by omega) (ih (k := max k (a + 1)))

theorem pats_mem {k : Int} (hk : 0 ≤ k) : ∀ {w : Nat} {p : List Int}, p ∈ pats k w → p.length = w ∧ ∀ n ∈ p, 0 ≤ n ∧ n + 1 ≤ k + w := by
  intro w
  induction w with
  | zero => intro p hp; simp [pats] at hp; subst hp; simp
  | succ w ih =>
    intro p hp
    simp only [pats, List.mem_flatMap] at hp
    obtain ⟨q, hq, hp⟩ := hp
    obtain ⟨h1, h2⟩ := ih hq
    unfold longerL at hp
    obtain ⟨n, hn, rfl⟩ := List.mem_map.1 hp
    have hn' := List.mem_range.1 hn
    have ht : topOf k q ≤ k + w := topOf_le (by omega) fun n hn => (h2 n hn).2
    refine ⟨by simp [h1], fun m hm => ?_⟩
    rcases List.mem_append.1 hm with h3 | h3
    · have := h2 m h3; omega
    · simp at h3; omega

theorem longerL_length {k : Int} {p : List Int} : (longerL k p).length = (topOf k p + 1).toNat := by simp [longerL]

theorem flatMap_len {α β : Type} {f : α → List β} {b : Nat} : ∀ {l : List α}, (∀ a ∈ l, (f a).length ≤ b) → (l.flatMap f).length ≤ l.length * b := by
  intro l
  induction l with
  | nil => intro _; simp
  | cons a t ih =>
    intro h
    rw [List.flatMap_cons, List.length_append, List.length_cons, Nat.add_mul, Nat.one_mul, Nat.add_comm]
    exact Nat.add_le_add (ih fun x hx => h x (by simp [hx])) (h a (by simp))

theorem pats_length {k : Int} (hk : 0 ≤ k) (hk3 : k ≤ 3) : ∀ {w : Nat}, w ≤ 4 → (pats k w).length ≤ 8 ^ w := by
  intro w
  induction w with
  | zero => intro _; simp [pats]
  | succ w ih =>
    intro hw
    rw [Nat.pow_succ]
    refine Nat.le_trans (flatMap_len (b := 8) fun p hp => ?_) (Nat.mul_le_mul_right _ (ih (by omega)))
    have := topOf_le (k := k) (b := k + w) (p := p) (by omega) fun n hn => ((pats_mem hk hp).2 n hn).2
    rw [longerL_length]; omega

theorem longer_ok {H : Hp} {v : Value} {p : List Int} {k : Int} (h : Sl cI H v p) (hp : ∀ n ∈ p, 0 ≤ n ∧ n ≤ 1000) (hl : p.length ≤ 1000) (hk : 0 ≤ k) (hk2 : k ≤ 1000) :
    CallK Try.prog 80 [v, .int .i64 k] H (fun r H' => Calm H H' ∧ ∃ ls, OAc cI 3 24 H.nxt H' r ls ∧ ls.map (·.1) = longerL k p) := by
  refine (CallK.enter Try.func80 rfl rfl Try.ntmps80 Try.results80 rfl ?_)
  repeat' (first|refine wA ?_|refine wB ?_|refine wH ?_|refine wI ?_|refine wJ ?_|refine wC ?_|refine wD ?_|refine wE ?_|refine wF ?_|refine wG ?_|refine wK ?_|refine wL ?_|refine wM ?_|refine wN ?_|refine wO ?_|refine wP ?_|refine wQ ?_|refine wR ?_|refine wS ?_|refine wT ?_|refine wU ?_|refine wV ?_|refine wW ?_|refine wX ?_)
  refine Run.loopW (fun (i : Nat) => p.length - i) (fun i => up (up (up (up (up (up jk 0 v) 1 (.int .i64 k)) 5 (.int .i64 (topOf k (p.take i)))) 11 v) 12 (.int .i64 p.length)) 13 (.int .i64 (i : Int))) (fun _ => H) (fun i => i ≤ p.length) 0 rfl (by repeat (first | exact Wk.jk | refine Wk.up rfl ?_)) (by omega) ?_
  · intro i hi
    repeat' (first|refine wA ?_|refine wB ?_|refine wH ?_|refine wI ?_|refine wJ ?_|refine wC ?_|refine wD ?_|refine wE ?_|refine wF ?_|refine wG ?_|refine wK ?_|refine wL ?_|refine wM ?_|refine wN ?_|refine wO ?_|refine wP ?_|refine wQ ?_|refine wR ?_|refine wS ?_|refine wT ?_|refine wU ?_|refine wV ?_|refine wW ?_|refine wX ?_)
    refine Ops.cmp rfl rfl rfl (fun hc => ?_) (fun hc => ?_)
    · repeat' (first|refine wA ?_|refine wB ?_|refine wH ?_|refine wI ?_|refine wJ ?_|refine wC ?_|refine wD ?_|refine wE ?_|refine wF ?_|refine wG ?_|refine wK ?_|refine wL ?_|refine wM ?_|refine wN ?_|refine wO ?_|refine wP ?_|refine wQ ?_|refine wR ?_|refine wS ?_|refine wT ?_|refine wU ?_|refine wV ?_|refine wW ?_|refine wX ?_)
      refine Ops.idxI h rfl (by omega) (by omega) (by kernel_rfl) (by kernel_rfl) fun pz a ha => ?_
      have ha' : p[i]? = some a := ha
      have hpa := hp a (List.mem_of_getElem? ha')
      repeat' (first|refine wA ?_|refine wB ?_|refine wH ?_|refine wI ?_|refine wJ ?_|refine wC ?_|refine wD ?_|refine wE ?_|refine wF ?_|refine wG ?_|refine wK ?_|refine wL ?_|refine wM ?_|refine wN ?_|refine wO ?_|refine wP ?_|refine wQ ?_|refine wR ?_|refine wS ?_|refine wT ?_|refine wU ?_|refine wV ?_|refine wW ?_|refine wX ?_)
      refine Ops.max rfl rfl ?_
      repeat' (first|refine wA ?_|refine wB ?_|refine wH ?_|refine wI ?_|refine wJ ?_|refine wC ?_|refine wD ?_|refine wE ?_|refine wF ?_|refine wG ?_|refine wK ?_|refine wL ?_|refine wM ?_|refine wN ?_|refine wO ?_|refine wP ?_|refine wQ ?_|refine wR ?_|refine wS ?_|refine wT ?_|refine wU ?_|refine wV ?_|refine wW ?_|refine wX ?_)
      refine ⟨i + 1, by dsimp only; omega, rfl, rfl, ?_, by omega⟩
      have e : topOf k (p.take (i + 1)) = if a + 1 > topOf k (p.take i) then a + 1 else topOf k (p.take i) := by
        rw [take_snoc ha', topOf_snoc]; omega
      dsimp only
      rw [e]
      exact (by repeat (first | exact Wk.jk | refine Wk.up rfl ?_))
    · have hip : i = p.length := by omega
      subst hip
      rw [List.take_length]
      have ht : topOf k p ≤ 1001 := topOf_le (by omega) fun n hn => by have := hp n hn; omega
      have ht0 : k ≤ topOf k p := topOf_ge
      generalize hT : topOf k p = top at ht ht0
      repeat' (first|refine wA ?_|refine wB ?_|refine wH ?_|refine wI ?_|refine wJ ?_|refine wC ?_|refine wD ?_|refine wE ?_|refine wF ?_|refine wG ?_|refine wK ?_|refine wL ?_|refine wM ?_|refine wN ?_|refine wO ?_|refine wP ?_|refine wQ ?_|refine wR ?_|refine wS ?_|refine wT ?_|refine wU ?_|refine wV ?_|refine wW ?_|refine wX ?_)
      refine Run.loopW (fun (a : Nat × Value × Hp × List (List Int × List Nat)) => 1002 - a.1) (fun a => up (up (up (up jk 0 v) 8 a.2.1) 23 (.int .i64 (top + 1))) 24 (.int .i64 (a.1 : Int))) (fun a => a.2.2.1)
        (fun a => (a.1 : Int) ≤ top + 1 ∧ Calm H a.2.2.1 ∧ OAc cI 3 24 H.nxt a.2.2.1 a.2.1 a.2.2.2 ∧ a.2.2.2.map (·.1) = (List.range a.1).map fun (n : Nat) => p ++ [(n : Int)]) (0, nilS, H, []) rfl (by repeat (first | exact Wk.jk | refine Wk.up rfl ?_))
        ⟨by dsimp only; omega, Calm.refl H, OAc.nil, rfl⟩ ?_
      rintro ⟨n, v8, H1, ls⟩ ⟨hn, c1, a8, hls⟩
      dsimp only at hn c1 a8 hls
      dsimp only
      have hlen : ls.length = n := by have := congrArg List.length hls; simpa using this
      repeat' (first|refine wA ?_|refine wB ?_|refine wH ?_|refine wI ?_|refine wJ ?_|refine wC ?_|refine wD ?_|refine wE ?_|refine wF ?_|refine wG ?_|refine wK ?_|refine wL ?_|refine wM ?_|refine wN ?_|refine wO ?_|refine wP ?_|refine wQ ?_|refine wR ?_|refine wS ?_|refine wT ?_|refine wU ?_|refine wV ?_|refine wW ?_|refine wX ?_)
      refine Ops.cmp rfl rfl rfl (fun hc2 => ?_) (fun hc2 => ?_)
      · repeat' (first|refine wA ?_|refine wB ?_|refine wH ?_|refine wI ?_|refine wJ ?_|refine wC ?_|refine wD ?_|refine wE ?_|refine wF ?_|refine wG ?_|refine wK ?_|refine wL ?_|refine wM ?_|refine wN ?_|refine wO ?_|refine wP ?_|refine wQ ?_|refine wR ?_|refine wS ?_|refine wT ?_|refine wU ?_|refine wV ?_|refine wW ?_|refine wX ?_)
        refine Ops.call (clone_ok (h.calm c1) (by omega)) (fun _ _ h _ => h.1.ge') fun r H2 => ?_
        rintro ⟨c2, a2⟩
        repeat' (first|refine wA ?_|refine wB ?_|refine wH ?_|refine wI ?_|refine wJ ?_|refine wC ?_|refine wD ?_|refine wE ?_|refine wF ?_|refine wG ?_|refine wK ?_|refine wL ?_|refine wM ?_|refine wN ?_|refine wO ?_|refine wP ?_|refine wQ ?_|refine wR ?_|refine wS ?_|refine wT ?_|refine wU ?_|refine wV ?_|refine wW ?_|refine wX ?_)
        refine Ops.push (a := (n : Int)) rdI a2 rfl (by simp) c2.1 (by kernel_rfl) (by kernel_rfl) (by kernel_rfl) (by omega) (by decide) fun q v' H3 a3 g3 => ?_
        have c3 : Calm H1 H3 := g3.calm H1 (Nat.le_refl _) c2
        obtain ⟨F, f1, f2, f3, f4⟩ := a3.rw_
        have a8' := a8.calm c3
        refine Ops.push (a := (p ++ [(n : Int)], F)) (rdF rdI) a8'.ac (cF_of f1) (by simp) (Nat.le_trans c1.1 c3.1) (by kernel_rfl) (by kernel_rfl) (by kernel_rfl) (by omega) (by decide) fun q2 v8' H4 a4 g4 => ?_
        have o4 : OAc cI 3 24 H.nxt H4 v8' (ls ++ [(p ++ [(n : Int)], F)]) := a8'.grow a4 g4 (by rw [fps_one]; exact f2.older c1.1) (by rw [fps_one]; exact f3) (by rw [fps_one]; exact fresh_not a8.own (Nat.le_refl _) f2) (by rw [fps_one]; exact fresh_ne a8.ac.live (Nat.le_refl _) f2)
        repeat' (first|refine wA ?_|refine wB ?_|refine wH ?_|refine wI ?_|refine wJ ?_|refine wC ?_|refine wD ?_|refine wE ?_|refine wF ?_|refine wG ?_|refine wK ?_|refine wL ?_|refine wM ?_|refine wN ?_|refine wO ?_|refine wP ?_|refine wQ ?_|refine wR ?_|refine wS ?_|refine wT ?_|refine wU ?_|refine wV ?_|refine wW ?_|refine wX ?_)
        refine ⟨(n + 1, v8', H4, ls ++ [(p ++ [(n : Int)], F)]), by dsimp only; omega, rfl, rfl, by dsimp only; exact (by repeat (first | exact Wk.jk | refine Wk.up rfl ?_)), ?_⟩
        exact ⟨by dsimp only; omega, g4.calm H (Nat.le_refl _) (c1.trans c3), o4, by simp [hls, List.range_succ]⟩
      · repeat' (first|refine wA ?_|refine wB ?_|refine wH ?_|refine wI ?_|refine wJ ?_|refine wC ?_|refine wD ?_|refine wE ?_|refine wF ?_|refine wG ?_|refine wK ?_|refine wL ?_|refine wM ?_|refine wN ?_|refine wO ?_|refine wP ?_|refine wQ ?_|refine wR ?_|refine wS ?_|refine wT ?_|refine wU ?_|refine wV ?_|refine wW ?_|refine wX ?_)
        refine Run.ret ⟨.inl rfl, ResK.tmp rfl (by conv => lhs; whnf) (ResK.nil ?_)⟩
        have : n = (top + 1).toNat := by omega
        exact ⟨c1, ls, a8, by rw [hls, this, longerL, hT]⟩

theorem patterns_ok {H : Hp} {w : Nat} {k : Int} (hw : w ≤ 4) (hk : 0 ≤ k) (hk2 : k ≤ 3) :
    CallK Try.prog 60 [.int .i64 w, .int .i64 k] H (fun r H' => Calm H H' ∧ ∃ ls, OL cI 3 H.nxt H' r ls ∧ ls.map (·.1) = pats k w) := by
  refine (CallK.enter Try.func60 rfl rfl Try.ntmps60 Try.results60 rfl ?_)
  repeat' (first|refine wA ?_|refine wB ?_|refine wH ?_|refine wI ?_|refine wJ ?_|refine wC ?_|refine wD ?_|refine wE ?_|refine wF ?_|refine wG ?_|refine wK ?_|refine wL ?_|refine wM ?_|refine wN ?_|refine wO ?_|refine wP ?_|refine wQ ?_|refine wR ?_|refine wS ?_|refine wT ?_|refine wU ?_|refine wV ?_|refine wW ?_|refine wX ?_)
  refine Ops.lit0 cI 3 H.nxt (by kernel_rfl) (by kernel_rfl) (Nat.le_refl _) fun u H1 a1 c1 p1 => ?_
  refine Ops.lit1 (a := (([], []) : List Int × List Nat)) (cF cI 3) 24 H.nxt (cF_of ⟨a1.sl, .inl ⟨rfl, rfl⟩⟩) (by kernel_rfl) (by kernel_rfl) c1.1 (by decide) fun v5 H2 a5 c2 p2 => ?_
  have c2 := c1.trans c2
  have o5 : OL cI 3 H.nxt H2 v5 [([], [])] := ⟨a5.sl, Own.nil, List.nodup_nil, fun id _ _ f hf => by cases hf⟩
  repeat' (first|refine wA ?_|refine wB ?_|refine wH ?_|refine wI ?_|refine wJ ?_|refine wC ?_|refine wD ?_|refine wE ?_|refine wF ?_|refine wG ?_|refine wK ?_|refine wL ?_|refine wM ?_|refine wN ?_|refine wO ?_|refine wP ?_|refine wQ ?_|refine wR ?_|refine wS ?_|refine wT ?_|refine wU ?_|refine wV ?_|refine wW ?_|refine wX ?_)
  refine Run.loopW (fun (a : Nat × Value × Hp × List (List Int × List Nat)) => w - a.1) (fun a => up (up (up (up (up jk 0 (.int .i64 w)) 1 (.int .i64 k)) 5 a.2.1) 11 (.int .i64 w)) 12 (.int .i64 (a.1 : Int))) (fun a => a.2.2.1)
    (fun a => a.1 ≤ w ∧ Calm H a.2.2.1 ∧ OL cI 3 H.nxt a.2.2.1 a.2.1 a.2.2.2 ∧ a.2.2.2.map (·.1) = pats k a.1) (0, v5, H2, [([], [])]) rfl (by repeat (first | exact Wk.jk | refine Wk.up rfl ?_))
    ⟨by dsimp only; omega, c2, o5, rfl⟩ ?_
  clear o5 a5 c2 p2 a1 c1 p1
  rintro ⟨i, v5, H2, ls⟩ ⟨hi, c2, o5, hls⟩
  dsimp only at hi c2 o5 hls
  dsimp only
  have hlen : ls.length = (pats k i).length := by rw [← hls]; simp
  have hpl := pats_length hk hk2 (w := i) (by omega)
  have h8 : 8 ^ i ≤ 4096 := Nat.le_trans (Nat.pow_le_pow_right (by omega) (show i ≤ 4 by omega)) (by decide)
  repeat' (first|refine wA ?_|refine wB ?_|refine wH ?_|refine wI ?_|refine wJ ?_|refine wC ?_|refine wD ?_|refine wE ?_|refine wF ?_|refine wG ?_|refine wK ?_|refine wL ?_|refine wM ?_|refine wN ?_|refine wO ?_|refine wP ?_|refine wQ ?_|refine wR ?_|refine wS ?_|refine wT ?_|refine wU ?_|refine wV ?_|refine wW ?_|refine wX ?_)
  refine Ops.cmp rfl rfl rfl (fun hc => ?_) (fun hc => ?_)
  · have s5 : Sl (cL cI) H2 v5 (pats k i) := by rw [← hls]; exact o5.sl.forget
    repeat' (first|refine wA ?_|refine wB ?_|refine wH ?_|refine wI ?_|refine wJ ?_|refine wC ?_|refine wD ?_|refine wE ?_|refine wF ?_|refine wG ?_|refine wK ?_|refine wL ?_|refine wM ?_|refine wN ?_|refine wO ?_|refine wP ?_|refine wQ ?_|refine wR ?_|refine wS ?_|refine wT ?_|refine wU ?_|refine wV ?_|refine wW ?_|refine wX ?_)
    refine Run.loopW (fun (a : Nat × Value × Hp × List (List Int × List Nat)) => (pats k i).length - a.1) (fun a => up (up (up (up (up (up (up (up jk 0 (.int .i64 w)) 1 (.int .i64 k)) 6 a.2.1) 11 (.int .i64 w)) 12 (.int .i64 (i : Int))) 14 v5) 15 (.int .i64 (pats k i).length)) 16 (.int .i64 (a.1 : Int))) (fun a => a.2.2.1)
      (fun a => a.1 ≤ (pats k i).length ∧ Calm H2 a.2.2.1 ∧ OAc cI 3 24 H2.nxt a.2.2.1 a.2.1 a.2.2.2 ∧ a.2.2.2.map (·.1) = ((pats k i).take a.1).flatMap (longerL k)) (0, nilS, H2, []) rfl (by repeat (first | exact Wk.jk | refine Wk.up rfl ?_))
      ⟨by dsimp only; omega, Calm.refl H2, OAc.nil, rfl⟩ ?_
    rintro ⟨j, v6, H3, ns⟩ ⟨hj, c3, a6, hns⟩
    dsimp only at hj c3 a6 hns
    dsimp only
    repeat' (first|refine wA ?_|refine wB ?_|refine wH ?_|refine wI ?_|refine wJ ?_|refine wC ?_|refine wD ?_|refine wE ?_|refine wF ?_|refine wG ?_|refine wK ?_|refine wL ?_|refine wM ?_|refine wN ?_|refine wO ?_|refine wP ?_|refine wQ ?_|refine wR ?_|refine wS ?_|refine wT ?_|refine wU ?_|refine wV ?_|refine wW ?_|refine wX ?_)
    refine Ops.cmp rfl rfl rfl (fun hc2 => ?_) (fun hc2 => ?_)
    · have hlong : ∀ p ∈ pats k i, (longerL k p).length ≤ 8 := fun p hp => by
        have := topOf_le (k := k) (b := k + i) (p := p) (by omega) fun n hn => ((pats_mem hk hp).2 n hn).2
        rw [longerL_length]; omega
      have hnl : ns.length ≤ (pats k i).length * 8 := by
        have e := congrArg List.length hns
        rw [List.length_map] at e
        rw [e]
        refine Nat.le_trans (flatMap_len (b := 8) fun p hp => hlong p (List.mem_of_mem_take hp)) (Nat.mul_le_mul_right _ ?_)
        rw [List.length_take]; omega
      repeat' (first|refine wA ?_|refine wB ?_|refine wH ?_|refine wI ?_|refine wJ ?_|refine wC ?_|refine wD ?_|refine wE ?_|refine wF ?_|refine wG ?_|refine wK ?_|refine wL ?_|refine wM ?_|refine wN ?_|refine wO ?_|refine wP ?_|refine wQ ?_|refine wR ?_|refine wS ?_|refine wT ?_|refine wU ?_|refine wV ?_|refine wW ?_|refine wX ?_)
      refine Ops.idx (s5.calm c3) rfl rfl (by omega) (by omega) (by kernel_rfl) (by kernel_rfl) fun p u a ha hu => ?_
      have ha' : (pats k i)[j]? = some a := ha
      have hmem := List.mem_of_getElem? ha'
      obtain ⟨m1, m2⟩ := pats_mem hk hmem
      repeat' (first|refine wA ?_|refine wB ?_|refine wH ?_|refine wI ?_|refine wJ ?_|refine wC ?_|refine wD ?_|refine wE ?_|refine wF ?_|refine wG ?_|refine wK ?_|refine wL ?_|refine wM ?_|refine wN ?_|refine wO ?_|refine wP ?_|refine wQ ?_|refine wR ?_|refine wS ?_|refine wT ?_|refine wU ?_|refine wV ?_|refine wW ?_|refine wX ?_)
      refine Ops.call (longer_ok (cL_at hu) (fun n hn => by have := m2 n hn; omega) (by omega) hk (by omega)) (fun _ _ h _ => h.1.ge') fun r H4 => ?_
      rintro ⟨c4, ms, o4, hms⟩
      have a6' := a6.calm c4
      have hml : ms.length ≤ 8 := by
        have e := congrArg List.length hms
        rw [List.length_map] at e
        rw [e]; exact hlong a hmem
      refine Ops.cat rfl (rdF rdI) a6'.ac o4.ac.sl (Nat.le_trans c3.1 c4.1) (by kernel_rfl) (by kernel_rfl) (by omega) fun v6' H5 a7 g7 => ?_
      have o7 := a6'.grow a7 g7 (o4.own.older c3.1) o4.nd (fresh_not a6.own (Nat.le_refl _) o4.own) (fresh_ne a6.ac.live (Nat.le_refl _) o4.own)
      repeat' (first|refine wA ?_|refine wB ?_|refine wH ?_|refine wI ?_|refine wJ ?_|refine wC ?_|refine wD ?_|refine wE ?_|refine wF ?_|refine wG ?_|refine wK ?_|refine wL ?_|refine wM ?_|refine wN ?_|refine wO ?_|refine wP ?_|refine wQ ?_|refine wR ?_|refine wS ?_|refine wT ?_|refine wU ?_|refine wV ?_|refine wW ?_|refine wX ?_)
      refine ⟨(j + 1, v6', H5, ns ++ ms), by dsimp only; omega, rfl, rfl, by dsimp only; exact (by repeat (first | exact Wk.jk | refine Wk.up rfl ?_)), ?_⟩
      refine ⟨by dsimp only; omega, ?_, o7, ?_⟩
      · exact g7.calm H2 (Nat.le_refl _) (c3.trans c4)
      · dsimp only
        rw [List.map_append, hns, hms, take_snoc ha', List.flatMap_append]; simp
    · repeat' (first|refine wA ?_|refine wB ?_|refine wH ?_|refine wI ?_|refine wJ ?_|refine wC ?_|refine wD ?_|refine wE ?_|refine wF ?_|refine wG ?_|refine wK ?_|refine wL ?_|refine wM ?_|refine wN ?_|refine wO ?_|refine wP ?_|refine wQ ?_|refine wR ?_|refine wS ?_|refine wT ?_|refine wU ?_|refine wV ?_|refine wW ?_|refine wX ?_)
      have hjp : j = (pats k i).length := by omega
      subst hjp
      rw [List.take_length] at hns
      refine ⟨(i + 1, v6, H3, ns), by dsimp only; omega, rfl, rfl, by dsimp only; exact (by repeat (first | exact Wk.jk | refine Wk.up rfl ?_)), ?_⟩
      exact ⟨by dsimp only; omega, c2.trans c3, a6.ol.older c2.1, by rw [hns]; rfl⟩
  · repeat' (first|refine wA ?_|refine wB ?_|refine wH ?_|refine wI ?_|refine wJ ?_|refine wC ?_|refine wD ?_|refine wE ?_|refine wF ?_|refine wG ?_|refine wK ?_|refine wL ?_|refine wM ?_|refine wN ?_|refine wO ?_|refine wP ?_|refine wQ ?_|refine wR ?_|refine wS ?_|refine wT ?_|refine wU ?_|refine wV ?_|refine wW ?_|refine wX ?_)
    refine Run.ret ⟨.inl rfl, ResK.tmp rfl (by conv => lhs; whnf) (ResK.nil ?_)⟩
    have : i = w := by omega
    subst this
    exact ⟨c2, ls, o5, hls⟩

end Go.Proofs.Ytefmjpbmdoebaaa

/- The patterns of a width, by the program and by the reference. -/
set_option linter.unusedVariables false
namespace Go.Proofs.Ytefmjpbmdoebaaa
open Go Go.RowKit

theorem patsOf_no {w k : Int} (h : ¬ (0 ≤ w ∧ w ≤ 4 ∧ 0 ≤ k ∧ k ≤ 3)) : patsOf w k = [] := if_neg h
theorem patsOf_yes {w k : Int} (h : 0 ≤ w ∧ w ≤ 4 ∧ 0 ≤ k ∧ k ≤ 3) : patsOf w k = pats k w.toNat := if_pos h

theorem PatternsOf_ok {H : Hp} {w k : Int} :
    CallK Try.prog 20 [.int .i64 w, .int .i64 k] H (fun r H' => Calm H H' ∧ ∃ ls, OL cI 3 H.nxt H' r ls ∧ ls.map (·.1) = patsOf w k) := by
  refine (CallK.enter Try.func20 rfl rfl Try.ntmps20 Try.results20 rfl ?_)
  repeat' (first|refine wA ?_|refine wB ?_|refine wH ?_|refine wI ?_|refine wJ ?_|refine wC ?_|refine wD ?_|refine wE ?_|refine wF ?_|refine wG ?_|refine wK ?_|refine wL ?_|refine wM ?_|refine wN ?_|refine wO ?_|refine wP ?_|refine wQ ?_|refine wR ?_|refine wS ?_|refine wT ?_|refine wU ?_|refine wV ?_|refine wW ?_|refine wX ?_)
  refine Ops.cmp rfl rfl rfl (fun hc => ?_) (fun hc => ?_)
  · repeat' (first|refine wA ?_|refine wB ?_|refine wH ?_|refine wI ?_|refine wJ ?_|refine wC ?_|refine wD ?_|refine wE ?_|refine wF ?_|refine wG ?_|refine wK ?_|refine wL ?_|refine wM ?_|refine wN ?_|refine wO ?_|refine wP ?_|refine wQ ?_|refine wR ?_|refine wS ?_|refine wT ?_|refine wU ?_|refine wV ?_|refine wW ?_|refine wX ?_)
    refine Run.ret ⟨.inl rfl, ResK.tmp rfl (by conv => lhs; whnf) (ResK.nil ?_)⟩
    exact ⟨Calm.refl H, [], OL.nil, by rw [patsOf_no (by omega)]; rfl⟩
  · repeat' (first|refine wA ?_|refine wB ?_|refine wH ?_|refine wI ?_|refine wJ ?_|refine wC ?_|refine wD ?_|refine wE ?_|refine wF ?_|refine wG ?_|refine wK ?_|refine wL ?_|refine wM ?_|refine wN ?_|refine wO ?_|refine wP ?_|refine wQ ?_|refine wR ?_|refine wS ?_|refine wT ?_|refine wU ?_|refine wV ?_|refine wW ?_|refine wX ?_)
    refine Ops.cmp rfl rfl rfl (fun hc2 => ?_) (fun hc2 => ?_)
    · repeat' (first|refine wA ?_|refine wB ?_|refine wH ?_|refine wI ?_|refine wJ ?_|refine wC ?_|refine wD ?_|refine wE ?_|refine wF ?_|refine wG ?_|refine wK ?_|refine wL ?_|refine wM ?_|refine wN ?_|refine wO ?_|refine wP ?_|refine wQ ?_|refine wR ?_|refine wS ?_|refine wT ?_|refine wU ?_|refine wV ?_|refine wW ?_|refine wX ?_)
      refine Run.ret ⟨.inl rfl, ResK.tmp rfl (by conv => lhs; whnf) (ResK.nil ?_)⟩
      exact ⟨Calm.refl H, [], OL.nil, by rw [patsOf_no (by omega)]; rfl⟩
    · repeat' (first|refine wA ?_|refine wB ?_|refine wH ?_|refine wI ?_|refine wJ ?_|refine wC ?_|refine wD ?_|refine wE ?_|refine wF ?_|refine wG ?_|refine wK ?_|refine wL ?_|refine wM ?_|refine wN ?_|refine wO ?_|refine wP ?_|refine wQ ?_|refine wR ?_|refine wS ?_|refine wT ?_|refine wU ?_|refine wV ?_|refine wW ?_|refine wX ?_)
      refine Ops.cmp rfl rfl rfl (fun hc3 => ?_) (fun hc3 => ?_)
      · repeat' (first|refine wA ?_|refine wB ?_|refine wH ?_|refine wI ?_|refine wJ ?_|refine wC ?_|refine wD ?_|refine wE ?_|refine wF ?_|refine wG ?_|refine wK ?_|refine wL ?_|refine wM ?_|refine wN ?_|refine wO ?_|refine wP ?_|refine wQ ?_|refine wR ?_|refine wS ?_|refine wT ?_|refine wU ?_|refine wV ?_|refine wW ?_|refine wX ?_)
        refine Run.ret ⟨.inl rfl, ResK.tmp rfl (by conv => lhs; whnf) (ResK.nil ?_)⟩
        exact ⟨Calm.refl H, [], OL.nil, by rw [patsOf_no (by omega)]; rfl⟩
      · repeat' (first|refine wA ?_|refine wB ?_|refine wH ?_|refine wI ?_|refine wJ ?_|refine wC ?_|refine wD ?_|refine wE ?_|refine wF ?_|refine wG ?_|refine wK ?_|refine wL ?_|refine wM ?_|refine wN ?_|refine wO ?_|refine wP ?_|refine wQ ?_|refine wR ?_|refine wS ?_|refine wT ?_|refine wU ?_|refine wV ?_|refine wW ?_|refine wX ?_)
        refine Ops.cmp rfl rfl rfl (fun hc4 => ?_) (fun hc4 => ?_)
        · repeat' (first|refine wA ?_|refine wB ?_|refine wH ?_|refine wI ?_|refine wJ ?_|refine wC ?_|refine wD ?_|refine wE ?_|refine wF ?_|refine wG ?_|refine wK ?_|refine wL ?_|refine wM ?_|refine wN ?_|refine wO ?_|refine wP ?_|refine wQ ?_|refine wR ?_|refine wS ?_|refine wT ?_|refine wU ?_|refine wV ?_|refine wW ?_|refine wX ?_)
          refine Run.ret ⟨.inl rfl, ResK.tmp rfl (by conv => lhs; whnf) (ResK.nil ?_)⟩
          exact ⟨Calm.refl H, [], OL.nil, by rw [patsOf_no (by omega)]; rfl⟩
        · repeat' (first|refine wA ?_|refine wB ?_|refine wH ?_|refine wI ?_|refine wJ ?_|refine wC ?_|refine wD ?_|refine wE ?_|refine wF ?_|refine wG ?_|refine wK ?_|refine wL ?_|refine wM ?_|refine wN ?_|refine wO ?_|refine wP ?_|refine wQ ?_|refine wR ?_|refine wS ?_|refine wT ?_|refine wU ?_|refine wV ?_|refine wW ?_|refine wX ?_)
          have hw : w = (w.toNat : Int) := by omega
          have hpat := patterns_ok (H := H) (w := w.toNat) (k := k) (by omega) (by omega) (by omega)
          rw [← hw] at hpat
          refine Ops.call hpat (fun _ _ h _ => h.1.ge') fun r H1 => ?_
          rintro ⟨c1, ls, o1, h1⟩
          repeat' (first|refine wA ?_|refine wB ?_|refine wH ?_|refine wI ?_|refine wJ ?_|refine wC ?_|refine wD ?_|refine wE ?_|refine wF ?_|refine wG ?_|refine wK ?_|refine wL ?_|refine wM ?_|refine wN ?_|refine wO ?_|refine wP ?_|refine wQ ?_|refine wR ?_|refine wS ?_|refine wT ?_|refine wU ?_|refine wV ?_|refine wW ?_|refine wX ?_)
          refine Run.ret ⟨.inl rfl, ResK.tmp rfl (by conv => lhs; whnf) (ResK.nil ?_)⟩
          exact ⟨c1, ls, o1, by rw [patsOf_yes (by omega)]; exact h1⟩

theorem l6All_ok {k : Int} (hk : 0 ≤ k) (hk2 : k ≤ 3) : ∀ (w : Nat) (H : Hp), w ≤ 4 → CallK Try.prog 59 [.int .i64 w, .int .i64 k] H (fun r H' => Calm H H' ∧ Sl (cL cI) H' r (pats k w)) := by
  intro w
  induction w with
  | zero =>
    intro H _
    refine (CallK.enter Try.func59 rfl rfl Try.ntmps59 Try.results59 rfl ?_)
    repeat' (first|refine wA ?_|refine wB ?_|refine wH ?_|refine wI ?_|refine wJ ?_|refine wC ?_|refine wD ?_|refine wE ?_|refine wF ?_|refine wG ?_|refine wK ?_|refine wL ?_|refine wM ?_|refine wN ?_|refine wO ?_|refine wP ?_|refine wQ ?_|refine wR ?_|refine wS ?_|refine wT ?_|refine wU ?_|refine wV ?_|refine wW ?_|refine wX ?_)
    refine Ops.cmp rfl rfl rfl (fun hc => ?_) (fun hc => ?_)
    · repeat' (first|refine wA ?_|refine wB ?_|refine wH ?_|refine wI ?_|refine wJ ?_|refine wC ?_|refine wD ?_|refine wE ?_|refine wF ?_|refine wG ?_|refine wK ?_|refine wL ?_|refine wM ?_|refine wN ?_|refine wO ?_|refine wP ?_|refine wQ ?_|refine wR ?_|refine wS ?_|refine wT ?_|refine wU ?_|refine wV ?_|refine wW ?_|refine wX ?_)
      refine Ops.lit0 cI 3 H.nxt (by kernel_rfl) (by kernel_rfl) (Nat.le_refl _) fun u H1 a1 c1 p1 => ?_
      refine Ops.lit1 (a := ([] : List Int)) (cL cI) 24 H.nxt (cL_of a1.sl) (by kernel_rfl) (by kernel_rfl) c1.1 (by decide) fun v5 H2 a5 c2 p2 => ?_
      repeat' (first|refine wA ?_|refine wB ?_|refine wH ?_|refine wI ?_|refine wJ ?_|refine wC ?_|refine wD ?_|refine wE ?_|refine wF ?_|refine wG ?_|refine wK ?_|refine wL ?_|refine wM ?_|refine wN ?_|refine wO ?_|refine wP ?_|refine wQ ?_|refine wR ?_|refine wS ?_|refine wT ?_|refine wU ?_|refine wV ?_|refine wW ?_|refine wX ?_)
      refine Run.ret ⟨.inl rfl, ResK.tmp rfl (by conv => lhs; whnf) (ResK.nil ?_)⟩
      exact ⟨c1.trans c2, a5.sl⟩
    · omega
  | succ w ih =>
    intro H hw
    have hpl := pats_length hk hk2 (w := w) (by omega)
    have h8 : 8 ^ w ≤ 4096 := Nat.le_trans (Nat.pow_le_pow_right (by omega) (show w ≤ 4 by omega)) (by decide)
    refine (CallK.enter Try.func59 rfl rfl Try.ntmps59 Try.results59 rfl ?_)
    repeat' (first|refine wA ?_|refine wB ?_|refine wH ?_|refine wI ?_|refine wJ ?_|refine wC ?_|refine wD ?_|refine wE ?_|refine wF ?_|refine wG ?_|refine wK ?_|refine wL ?_|refine wM ?_|refine wN ?_|refine wO ?_|refine wP ?_|refine wQ ?_|refine wR ?_|refine wS ?_|refine wT ?_|refine wU ?_|refine wV ?_|refine wW ?_|refine wX ?_)
    refine Ops.cmp rfl rfl rfl (fun hc => ?_) (fun hc => ?_)
    · omega
    · repeat' (first|refine wA ?_|refine wB ?_|refine wH ?_|refine wI ?_|refine wJ ?_|refine wC ?_|refine wD ?_|refine wE ?_|refine wF ?_|refine wG ?_|refine wK ?_|refine wL ?_|refine wM ?_|refine wN ?_|refine wO ?_|refine wP ?_|refine wQ ?_|refine wR ?_|refine wS ?_|refine wT ?_|refine wU ?_|refine wV ?_|refine wW ?_|refine wX ?_)
      refine Ops.lit0 (cL cI) 24 H.nxt (by kernel_rfl) (by kernel_rfl) (Nat.le_refl _) fun v5 H1 a5 c1 p1 => ?_
      repeat' (first|refine wA ?_|refine wB ?_|refine wH ?_|refine wI ?_|refine wJ ?_|refine wC ?_|refine wD ?_|refine wE ?_|refine wF ?_|refine wG ?_|refine wK ?_|refine wL ?_|refine wM ?_|refine wN ?_|refine wO ?_|refine wP ?_|refine wQ ?_|refine wR ?_|refine wS ?_|refine wT ?_|refine wU ?_|refine wV ?_|refine wW ?_|refine wX ?_)
      have ih' := ih H1 (by omega)
      rw [show (w : Int) = ((w + 1 : Nat) : Int) - 1 by omega] at ih'
      refine Ops.call ih' (fun _ _ h _ => h.1.ge') fun v20 H2 => ?_
      rintro ⟨c2, s20⟩
      repeat' (first|refine wA ?_|refine wB ?_|refine wH ?_|refine wI ?_|refine wJ ?_|refine wC ?_|refine wD ?_|refine wE ?_|refine wF ?_|refine wG ?_|refine wK ?_|refine wL ?_|refine wM ?_|refine wN ?_|refine wO ?_|refine wP ?_|refine wQ ?_|refine wR ?_|refine wS ?_|refine wT ?_|refine wU ?_|refine wV ?_|refine wW ?_|refine wX ?_)
      refine Run.loopW (fun (a : Nat × Value × Hp × List (List Int)) => (pats k w).length - a.1) (fun a => up (up (up (up (up (up jk 0 (.int .i64 (w + 1 : Nat))) 1 (.int .i64 k)) 5 a.2.1) 20 v20) 21 (.int .i64 (pats k w).length)) 22 (.int .i64 (a.1 : Int))) (fun a => a.2.2.1)
        (fun a => a.1 ≤ (pats k w).length ∧ Calm H a.2.2.1 ∧ Sl (cL cI) a.2.2.1 v20 (pats k w) ∧ Ac (cL cI) 24 H.nxt a.2.2.1 a.2.1 a.2.2.2 ∧ a.2.2.2 = ((pats k w).take a.1).flatMap (longerL k)) (0, v5, H2, []) rfl (by repeat (first | exact Wk.jk | refine Wk.up rfl ?_))
        ⟨by dsimp only; omega, c1.trans c2, s20, a5.calm c2, rfl⟩ ?_
      clear s20 a5 p1
      rintro ⟨i, v5, H3, ls⟩ ⟨hi, c3, s20, a5, hls⟩
      dsimp only at hi c3 s20 a5 hls
      dsimp only
      have hlong : ∀ p ∈ pats k w, (longerL k p).length ≤ 8 := fun p hp => by
        have := topOf_le (k := k) (b := k + w) (p := p) (by omega) fun n hn => ((pats_mem hk hp).2 n hn).2
        rw [longerL_length]; omega
      have hnl : ls.length ≤ (pats k w).length * 8 := by
        rw [hls]
        refine Nat.le_trans (flatMap_len (b := 8) fun p hp => hlong p (List.mem_of_mem_take hp)) (Nat.mul_le_mul_right _ ?_)
        rw [List.length_take]; omega
      repeat' (first|refine wA ?_|refine wB ?_|refine wH ?_|refine wI ?_|refine wJ ?_|refine wC ?_|refine wD ?_|refine wE ?_|refine wF ?_|refine wG ?_|refine wK ?_|refine wL ?_|refine wM ?_|refine wN ?_|refine wO ?_|refine wP ?_|refine wQ ?_|refine wR ?_|refine wS ?_|refine wT ?_|refine wU ?_|refine wV ?_|refine wW ?_|refine wX ?_)
      refine Ops.cmp rfl rfl rfl (fun hc2 => ?_) (fun hc2 => ?_)
      · repeat' (first|refine wA ?_|refine wB ?_|refine wH ?_|refine wI ?_|refine wJ ?_|refine wC ?_|refine wD ?_|refine wE ?_|refine wF ?_|refine wG ?_|refine wK ?_|refine wL ?_|refine wM ?_|refine wN ?_|refine wO ?_|refine wP ?_|refine wQ ?_|refine wR ?_|refine wS ?_|refine wT ?_|refine wU ?_|refine wV ?_|refine wW ?_|refine wX ?_)
        refine Ops.idx s20 rfl rfl (by omega) (by omega) (by kernel_rfl) (by kernel_rfl) fun pz u a ha hu => ?_
        have ha' : (pats k w)[i]? = some a := ha
        have hmem := List.mem_of_getElem? ha'
        obtain ⟨m1, m2⟩ := pats_mem hk hmem
        have su := cL_at hu
        repeat' (first|refine wA ?_|refine wB ?_|refine wH ?_|refine wI ?_|refine wJ ?_|refine wC ?_|refine wD ?_|refine wE ?_|refine wF ?_|refine wG ?_|refine wK ?_|refine wL ?_|refine wM ?_|refine wN ?_|refine wO ?_|refine wP ?_|refine wQ ?_|refine wR ?_|refine wS ?_|refine wT ?_|refine wU ?_|refine wV ?_|refine wW ?_|refine wX ?_)
        refine Run.loopW (fun (j : Nat) => a.length - j) (fun j => up (up (up (up (up (up (up (up (up (up (up jk 0 (.int .i64 (w + 1 : Nat))) 1 (.int .i64 k)) 5 v5) 20 v20) 21 (.int .i64 (pats k w).length)) 22 (.int .i64 (i : Int))) 7 u) 8 (.int .i64 (topOf k (a.take j)))) 27 u) 28 (.int .i64 a.length)) 29 (.int .i64 (j : Int))) (fun _ => H3) (fun j => j ≤ a.length) 0 rfl (by repeat (first | exact Wk.jk | refine Wk.up rfl ?_)) (by omega) ?_
        intro j hj
        repeat' (first|refine wA ?_|refine wB ?_|refine wH ?_|refine wI ?_|refine wJ ?_|refine wC ?_|refine wD ?_|refine wE ?_|refine wF ?_|refine wG ?_|refine wK ?_|refine wL ?_|refine wM ?_|refine wN ?_|refine wO ?_|refine wP ?_|refine wQ ?_|refine wR ?_|refine wS ?_|refine wT ?_|refine wU ?_|refine wV ?_|refine wW ?_|refine wX ?_)
        refine Ops.cmp rfl rfl rfl (fun hc3 => ?_) (fun hc3 => ?_)
        · repeat' (first|refine wA ?_|refine wB ?_|refine wH ?_|refine wI ?_|refine wJ ?_|refine wC ?_|refine wD ?_|refine wE ?_|refine wF ?_|refine wG ?_|refine wK ?_|refine wL ?_|refine wM ?_|refine wN ?_|refine wO ?_|refine wP ?_|refine wQ ?_|refine wR ?_|refine wS ?_|refine wT ?_|refine wU ?_|refine wV ?_|refine wW ?_|refine wX ?_)
          refine Ops.idxI su rfl (by omega) (by omega) (by kernel_rfl) (by kernel_rfl) fun pz b hb => ?_
          have hb' : a[j]? = some b := hb
          have hpb := m2 b (List.mem_of_getElem? hb')
          repeat' (first|refine wA ?_|refine wB ?_|refine wH ?_|refine wI ?_|refine wJ ?_|refine wC ?_|refine wD ?_|refine wE ?_|refine wF ?_|refine wG ?_|refine wK ?_|refine wL ?_|refine wM ?_|refine wN ?_|refine wO ?_|refine wP ?_|refine wQ ?_|refine wR ?_|refine wS ?_|refine wT ?_|refine wU ?_|refine wV ?_|refine wW ?_|refine wX ?_)
          refine Ops.callE l1Max_ok ?_
          repeat' (first|refine wA ?_|refine wB ?_|refine wH ?_|refine wI ?_|refine wJ ?_|refine wC ?_|refine wD ?_|refine wE ?_|refine wF ?_|refine wG ?_|refine wK ?_|refine wL ?_|refine wM ?_|refine wN ?_|refine wO ?_|refine wP ?_|refine wQ ?_|refine wR ?_|refine wS ?_|refine wT ?_|refine wU ?_|refine wV ?_|refine wW ?_|refine wX ?_)
          refine ⟨j + 1, by dsimp only; omega, rfl, rfl, by dsimp only; rw [take_snoc hb', topOf_snoc]; exact (by repeat (first | exact Wk.jk | refine Wk.up rfl ?_)), ?_⟩
          omega
        · have hja : j = a.length := by omega
          subst hja
          rw [List.take_length]
          have ht : topOf k a ≤ k + w := topOf_le (by omega) fun n hn => (m2 n hn).2
          have ht0 : k ≤ topOf k a := topOf_ge
          generalize hT : topOf k a = top at ht ht0
          repeat' (first|refine wA ?_|refine wB ?_|refine wH ?_|refine wI ?_|refine wJ ?_|refine wC ?_|refine wD ?_|refine wE ?_|refine wF ?_|refine wG ?_|refine wK ?_|refine wL ?_|refine wM ?_|refine wN ?_|refine wO ?_|refine wP ?_|refine wQ ?_|refine wR ?_|refine wS ?_|refine wT ?_|refine wU ?_|refine wV ?_|refine wW ?_|refine wX ?_)
          refine Run.loopW (fun (b : Nat × Value × Hp × List (List Int)) => 1002 - b.1) (fun b => up (up (up (up (up (up (up (up (up jk 0 (.int .i64 (w + 1 : Nat))) 1 (.int .i64 k)) 5 b.2.1) 20 v20) 21 (.int .i64 (pats k w).length)) 22 (.int .i64 (i : Int))) 7 u) 8 (.int .i64 top)) 11 (.int .i64 (b.1 : Int))) (fun b => b.2.2.1)
            (fun b => (b.1 : Int) ≤ top + 1 ∧ Calm H b.2.2.1 ∧ Sl (cL cI) b.2.2.1 v20 (pats k w) ∧ Sl cI b.2.2.1 u a ∧ Ac (cL cI) 24 H.nxt b.2.2.1 b.2.1 b.2.2.2 ∧ b.2.2.2 = ls ++ (List.range b.1).map fun (n : Nat) => a ++ [(n : Int)]) (0, v5, H3, ls) rfl (by repeat (first | exact Wk.jk | refine Wk.up rfl ?_))
            ⟨by dsimp only; omega, c3, s20, su, a5, by simp⟩ ?_
          clear c3 s20 su a5 hu
          rintro ⟨n, v5, H3, ns⟩ ⟨hn, c3, s20, su, a5, hns⟩
          dsimp only at hn c3 s20 su a5 hns
          dsimp only
          have hnl2 : ns.length = ls.length + n := by rw [hns]; simp
          repeat' (first|refine wA ?_|refine wB ?_|refine wH ?_|refine wI ?_|refine wJ ?_|refine wC ?_|refine wD ?_|refine wE ?_|refine wF ?_|refine wG ?_|refine wK ?_|refine wL ?_|refine wM ?_|refine wN ?_|refine wO ?_|refine wP ?_|refine wQ ?_|refine wR ?_|refine wS ?_|refine wT ?_|refine wU ?_|refine wV ?_|refine wW ?_|refine wX ?_)
          refine Ops.cmp rfl rfl rfl (fun hc4 => ?_) (fun hc4 => ?_)
          · repeat' (first|refine wA ?_|refine wB ?_|refine wH ?_|refine wI ?_|refine wJ ?_|refine wC ?_|refine wD ?_|refine wE ?_|refine wF ?_|refine wG ?_|refine wK ?_|refine wL ?_|refine wM ?_|refine wN ?_|refine wO ?_|refine wP ?_|refine wQ ?_|refine wR ?_|refine wS ?_|refine wT ?_|refine wU ?_|refine wV ?_|refine wW ?_|refine wX ?_)
            refine Ops.call (l1Copy_ok su (by omega)) (fun _ _ h _ => h.1.ge') fun r H4 => ?_
            rintro ⟨c4, a4⟩
            repeat' (first|refine wA ?_|refine wB ?_|refine wH ?_|refine wI ?_|refine wJ ?_|refine wC ?_|refine wD ?_|refine wE ?_|refine wF ?_|refine wG ?_|refine wK ?_|refine wL ?_|refine wM ?_|refine wN ?_|refine wO ?_|refine wP ?_|refine wQ ?_|refine wR ?_|refine wS ?_|refine wT ?_|refine wU ?_|refine wV ?_|refine wW ?_|refine wX ?_)
            refine Ops.push (a := (n : Int)) rdI a4 rfl (by simp) c4.1 (by kernel_rfl) (by kernel_rfl) (by kernel_rfl) (by omega) (by decide) fun q v' H5 a6 g6 => ?_
            have c6 : Calm H3 H5 := g6.calm H3 (Nat.le_refl _) c4
            refine Ops.push (a := a ++ [(n : Int)]) (rdL rdI) (a5.calm c6) (cL_of a6.sl) (by simp) (Nat.le_trans c3.1 c6.1) (by kernel_rfl) (by kernel_rfl) (by kernel_rfl) (by omega) (by decide) fun q2 v5' H6 a7 g7 => ?_
            repeat' (first|refine wA ?_|refine wB ?_|refine wH ?_|refine wI ?_|refine wJ ?_|refine wC ?_|refine wD ?_|refine wE ?_|refine wF ?_|refine wG ?_|refine wK ?_|refine wL ?_|refine wM ?_|refine wN ?_|refine wO ?_|refine wP ?_|refine wQ ?_|refine wR ?_|refine wS ?_|refine wT ?_|refine wU ?_|refine wV ?_|refine wW ?_|refine wX ?_)
            refine ⟨(n + 1, v5', H6, ns ++ [a ++ [(n : Int)]]), by dsimp only; omega, rfl, rfl, by dsimp only; exact (by repeat (first | exact Wk.jk | refine Wk.up rfl ?_)), ?_⟩
            exact ⟨by dsimp only; omega, g7.calm H (Nat.le_refl _) (c3.trans c6), g7.sl (rdL rdI) (s20.calm c6), g7.sl rdI (su.calm c6), a7, by simp [hns, List.range_succ]⟩
          · repeat' (first|refine wA ?_|refine wB ?_|refine wH ?_|refine wI ?_|refine wJ ?_|refine wC ?_|refine wD ?_|refine wE ?_|refine wF ?_|refine wG ?_|refine wK ?_|refine wL ?_|refine wM ?_|refine wN ?_|refine wO ?_|refine wP ?_|refine wQ ?_|refine wR ?_|refine wS ?_|refine wT ?_|refine wU ?_|refine wV ?_|refine wW ?_|refine wX ?_)
            refine ⟨(i + 1, v5, H3, ns), by dsimp only; omega, rfl, rfl, by dsimp only; exact (by repeat (first | exact Wk.jk | refine Wk.up rfl ?_)), ?_⟩
            refine ⟨by dsimp only; omega, c3, s20, a5, ?_⟩
            have : n = (top + 1).toNat := by omega
            dsimp only
            rw [hns, take_snoc ha', List.flatMap_append, ← hls]
            simp [longerL, hT, this]
      · repeat' (first|refine wA ?_|refine wB ?_|refine wH ?_|refine wI ?_|refine wJ ?_|refine wC ?_|refine wD ?_|refine wE ?_|refine wF ?_|refine wG ?_|refine wK ?_|refine wL ?_|refine wM ?_|refine wN ?_|refine wO ?_|refine wP ?_|refine wQ ?_|refine wR ?_|refine wS ?_|refine wT ?_|refine wU ?_|refine wV ?_|refine wW ?_|refine wX ?_)
        refine Run.ret ⟨.inl rfl, ResK.tmp rfl (by conv => lhs; whnf) (ResK.nil ?_)⟩
        have hjp : i = (pats k w).length := by omega
        subst hjp
        rw [List.take_length] at hls
        subst hls
        exact ⟨c3, a5.sl⟩

theorem specPatternsOf_ok {H : Hp} {w k : Int} :
    CallK Try.prog 19 [.int .i64 w, .int .i64 k] H (fun r H' => Calm H H' ∧ Sl (cL cI) H' r (patsOf w k)) := by
  have no : ¬ (0 ≤ w ∧ w ≤ 4 ∧ 0 ≤ k ∧ k ≤ 3) → ∀ v' H', Ac (cL cI) 24 H.nxt H' v' [] → Calm H H' → (Calm H H' ∧ Sl (cL cI) H' v' (patsOf w k)) := fun h v' H' h1 h2 => by
    rw [patsOf_no h]; exact ⟨h2, h1.sl⟩
  refine (CallK.enter Try.func19 rfl rfl Try.ntmps19 Try.results19 rfl ?_)
  repeat' (first|refine wA ?_|refine wB ?_|refine wH ?_|refine wI ?_|refine wJ ?_|refine wC ?_|refine wD ?_|refine wE ?_|refine wF ?_|refine wG ?_|refine wK ?_|refine wL ?_|refine wM ?_|refine wN ?_|refine wO ?_|refine wP ?_|refine wQ ?_|refine wR ?_|refine wS ?_|refine wT ?_|refine wU ?_|refine wV ?_|refine wW ?_|refine wX ?_)
  refine Ops.callB l1In_ok (fun hc => ?_) (fun hc => ?_)
  · repeat' (first|refine wA ?_|refine wB ?_|refine wH ?_|refine wI ?_|refine wJ ?_|refine wC ?_|refine wD ?_|refine wE ?_|refine wF ?_|refine wG ?_|refine wK ?_|refine wL ?_|refine wM ?_|refine wN ?_|refine wO ?_|refine wP ?_|refine wQ ?_|refine wR ?_|refine wS ?_|refine wT ?_|refine wU ?_|refine wV ?_|refine wW ?_|refine wX ?_)
    refine Ops.callB l1In_ok (fun hc2 => ?_) (fun hc2 => ?_)
    · have hc := of_decide_eq_true hc
      have hc2 := of_decide_eq_true hc2
      repeat' (first|refine wA ?_|refine wB ?_|refine wH ?_|refine wI ?_|refine wJ ?_|refine wC ?_|refine wD ?_|refine wE ?_|refine wF ?_|refine wG ?_|refine wK ?_|refine wL ?_|refine wM ?_|refine wN ?_|refine wO ?_|refine wP ?_|refine wQ ?_|refine wR ?_|refine wS ?_|refine wT ?_|refine wU ?_|refine wV ?_|refine wW ?_|refine wX ?_)
      have hw : w = (w.toNat : Int) := by omega
      have hpat := l6All_ok (k := k) (by omega) (by omega) w.toNat H (by omega)
      rw [← hw] at hpat
      refine Ops.call hpat (fun _ _ h _ => h.1.ge') fun r H1 => ?_
      rintro ⟨c1, s1⟩
      repeat' (first|refine wA ?_|refine wB ?_|refine wH ?_|refine wI ?_|refine wJ ?_|refine wC ?_|refine wD ?_|refine wE ?_|refine wF ?_|refine wG ?_|refine wK ?_|refine wL ?_|refine wM ?_|refine wN ?_|refine wO ?_|refine wP ?_|refine wQ ?_|refine wR ?_|refine wS ?_|refine wT ?_|refine wU ?_|refine wV ?_|refine wW ?_|refine wX ?_)
      refine Run.ret ⟨.inl rfl, ResK.tmp rfl (by conv => lhs; whnf) (ResK.nil ?_)⟩
      exact ⟨c1, by rw [patsOf_yes (by omega)]; exact s1⟩
    · have hc2 := of_decide_eq_false hc2
      repeat' (first|refine wA ?_|refine wB ?_|refine wH ?_|refine wI ?_|refine wJ ?_|refine wC ?_|refine wD ?_|refine wE ?_|refine wF ?_|refine wG ?_|refine wK ?_|refine wL ?_|refine wM ?_|refine wN ?_|refine wO ?_|refine wP ?_|refine wQ ?_|refine wR ?_|refine wS ?_|refine wT ?_|refine wU ?_|refine wV ?_|refine wW ?_|refine wX ?_)
      refine Ops.lit0 (cL cI) 24 H.nxt (by kernel_rfl) (by kernel_rfl) (Nat.le_refl _) fun v5 H1 a5 c1 p1 => ?_
      repeat' (first|refine wA ?_|refine wB ?_|refine wH ?_|refine wI ?_|refine wJ ?_|refine wC ?_|refine wD ?_|refine wE ?_|refine wF ?_|refine wG ?_|refine wK ?_|refine wL ?_|refine wM ?_|refine wN ?_|refine wO ?_|refine wP ?_|refine wQ ?_|refine wR ?_|refine wS ?_|refine wT ?_|refine wU ?_|refine wV ?_|refine wW ?_|refine wX ?_)
      refine Run.ret ⟨.inl rfl, ResK.tmp rfl (by conv => lhs; whnf) (ResK.nil ?_)⟩
      exact no (by omega) _ _ a5 c1
  · have hc := of_decide_eq_false hc
    repeat' (first|refine wA ?_|refine wB ?_|refine wH ?_|refine wI ?_|refine wJ ?_|refine wC ?_|refine wD ?_|refine wE ?_|refine wF ?_|refine wG ?_|refine wK ?_|refine wL ?_|refine wM ?_|refine wN ?_|refine wO ?_|refine wP ?_|refine wQ ?_|refine wR ?_|refine wS ?_|refine wT ?_|refine wU ?_|refine wV ?_|refine wW ?_|refine wX ?_)
    refine Ops.lit0 (cL cI) 24 H.nxt (by kernel_rfl) (by kernel_rfl) (Nat.le_refl _) fun v5 H1 a5 c1 p1 => ?_
    repeat' (first|refine wA ?_|refine wB ?_|refine wH ?_|refine wI ?_|refine wJ ?_|refine wC ?_|refine wD ?_|refine wE ?_|refine wF ?_|refine wG ?_|refine wK ?_|refine wL ?_|refine wM ?_|refine wN ?_|refine wO ?_|refine wP ?_|refine wQ ?_|refine wR ?_|refine wS ?_|refine wT ?_|refine wU ?_|refine wV ?_|refine wW ?_|refine wX ?_)
    refine Run.ret ⟨.inl rfl, ResK.tmp rfl (by conv => lhs; whnf) (ResK.nil ?_)⟩
    exact no (by omega) _ _ a5 c1

end Go.Proofs.Ytefmjpbmdoebaaa

/- Patterns as lists: the order, and what is one; the functions that tell it. -/
set_option linter.unusedVariables false
namespace Go.Proofs.Ytefmjpbmdoebaaa
open Go Go.RowKit

/-- -1, 0 or 1: the order of lists. -/
def cmpL : List Int → List Int → Int
  | [], [] => 0
  | [], _ :: _ => -1
  | _ :: _, [] => 1
  | a :: s, b :: t => if a < b then -1 else if b < a then 1 else cmpL s t

theorem cmpL_step {l m : List Int} {i : Nat} {a b : Int} (ha : l[i]? = some a) (hb : m[i]? = some b) : cmpL (l.drop i) (m.drop i) = if a < b then -1 else if b < a then 1 else cmpL (l.drop (i + 1)) (m.drop (i + 1)) := by
  obtain ⟨h1, h2⟩ := List.getElem?_eq_some_iff.1 ha
  obtain ⟨h3, h4⟩ := List.getElem?_eq_some_iff.1 hb
  rw [List.drop_eq_getElem_cons h1, List.drop_eq_getElem_cons h3, h2, h4]
  rfl
theorem cmpL_end {l m : List Int} {i : Nat} (hi : i = l.length ∨ i = m.length) (h1 : i ≤ l.length) (h2 : i ≤ m.length) : cmpL (l.drop i) (m.drop i) = if l.length < m.length then -1 else if m.length < l.length then 1 else 0 := by
  rcases hi with h | h
  · have e1 : l.drop i = [] := List.drop_of_length_le (by omega)
    rw [e1]
    by_cases h3 : l.length < m.length
    · rw [if_pos h3, List.drop_eq_getElem_cons (by omega)]; rfl
    · rw [if_neg h3, if_neg (by omega), List.drop_of_length_le (by omega)]; rfl
  · have e1 : m.drop i = [] := List.drop_of_length_le (by omega)
    rw [e1]
    by_cases h3 : m.length < l.length
    · rw [if_neg (by omega), if_pos h3, List.drop_eq_getElem_cons (by omega)]; rfl
    · rw [if_neg (by omega), if_neg h3, List.drop_of_length_le (by omega)]; rfl
theorem cmpL_rfl : ∀ l : List Int, cmpL l l = 0
  | [] => rfl
  | a :: t => by simp [cmpL, cmpL_rfl t]
theorem cmpL_eq : ∀ {l m : List Int}, cmpL l m = 0 → l = m
  | [], [], _ => rfl
  | [], _ :: _, h => by simp [cmpL] at h
  | _ :: _, [], h => by simp [cmpL] at h
  | a :: s, b :: t, h => by
    simp only [cmpL] at h
    split at h
    · cases h
    · split at h
      · cases h
      · rw [cmpL_eq h]; congr 1; omega
theorem cmpL_swap : ∀ (l m : List Int), cmpL m l = - cmpL l m
  | [], [] => rfl
  | [], _ :: _ => rfl
  | _ :: _, [] => rfl
  | a :: s, b :: t => by
    simp only [cmpL]
    have := cmpL_swap s t
    split <;> split <;> first | omega | rfl | skip
theorem cmpL_trans : ∀ {l m n : List Int}, cmpL l m < 0 → cmpL m n < 0 → cmpL l n < 0
  | [], [], _, h, _ => by simp [cmpL] at h
  | [], _ :: _, [], _, h => by simp [cmpL] at h
  | [], _ :: _, _ :: _, _, _ => by simp [cmpL]
  | _ :: _, [], _, h, _ => by simp [cmpL] at h
  | _ :: _, _ :: _, [], _, h => by simp [cmpL] at h
  | a :: s, b :: t, c :: u, h1, h2 => by
    simp only [cmpL] at h1 h2 ⊢
    have := cmpL_trans (l := s) (m := t) (n := u)
    split at h1
    · split at h2
      · rw [if_pos (by omega)]; omega
      · split at h2
        · omega
        · rw [if_pos (by omega)]; omega
    · split at h1
      · omega
      · split at h2
        · rw [if_pos (by omega)]; omega
        · split at h2
          · omega
          · rw [if_neg (by omega), if_neg (by omega)]; exact this h1 h2
theorem cmpL_cases (l m : List Int) : cmpL l m = -1 ∨ cmpL l m = 0 ∨ cmpL l m = 1 := by
  induction l generalizing m with
  | nil => cases m <;> simp [cmpL]
  | cons a s ih =>
    cases m with
    | nil => simp [cmpL]
    | cons b t => simp only [cmpL]; split; · simp
                  · split; · simp
                    · exact ih t

/-- Is it a pattern, behind what has led to k? -/
def isPat : Int → List Int → Prop
  | _, [] => True
  | k, n :: t => 0 ≤ n ∧ n ≤ k ∧ isPat (max k (n + 1)) t

theorem isPat_snoc : ∀ {k : Int} {p : List Int} {n : Int}, isPat k (p ++ [n]) ↔ isPat k p ∧ 0 ≤ n ∧ n ≤ topOf k p
  | k, [], n => by simp [isPat, topOf]
  | k, a :: t, n => by
    have := isPat_snoc (k := max k (a + 1)) (p := t) (n := n)
    simp only [List.cons_append, isPat, this, topOf, List.foldl_cons]
    constructor
    · rintro ⟨h1, h2, h3, h4⟩; exact ⟨⟨h1, h2, h3⟩, h4⟩
    · rintro ⟨⟨h1, h2, h3⟩, h4⟩; exact ⟨h1, h2, h3, h4⟩

theorem longerL_mem {k : Int} {p q : List Int} (hk : 0 ≤ k) : q ∈ longerL k p ↔ ∃ n, q = p ++ [n] ∧ 0 ≤ n ∧ n ≤ topOf k p := by
  have := topOf_ge (k := k) (p := p)
  unfold longerL
  rw [List.mem_map]
  constructor
  · rintro ⟨n, hn, rfl⟩
    have := List.mem_range.1 hn
    exact ⟨n, rfl, by omega, by omega⟩
  · rintro ⟨n, rfl, h1, h2⟩
    exact ⟨n.toNat, List.mem_range.2 (by omega), by rw [Int.toNat_of_nonneg h1]⟩

theorem pats_iff {k : Int} (hk : 0 ≤ k) : ∀ {w : Nat} {p : List Int}, p ∈ pats k w ↔ p.length = w ∧ isPat k p
  | 0, p => by
    simp only [pats, List.mem_singleton]
    constructor
    · rintro rfl; exact ⟨rfl, trivial⟩
    · rintro ⟨h, _⟩; exact List.length_eq_zero_iff.1 h
  | w + 1, p => by
    simp only [pats, List.mem_flatMap]
    constructor
    · rintro ⟨q, hq, hp⟩
      obtain ⟨n, rfl, h1, h2⟩ := (longerL_mem hk).1 hp
      obtain ⟨h3, h4⟩ := (pats_iff hk).1 hq
      exact ⟨by simp [h3], isPat_snoc.2 ⟨h4, h1, h2⟩⟩
    · rintro ⟨h1, h2⟩
      rcases List.eq_nil_or_concat p with rfl | ⟨q, n, rfl⟩
      · simp at h1
      · rw [List.concat_eq_append] at h1 h2 ⊢
        obtain ⟨h3, h4, h5⟩ := isPat_snoc.1 h2
        exact ⟨q, (pats_iff hk).2 ⟨by simpa using h1, h3⟩, (longerL_mem hk).2 ⟨n, rfl, h4, h5⟩⟩

theorem drop_split {α : Type} {l : List α} {i : Nat} {a : α} (h : l[i]? = some a) : l.drop i = a :: l.drop (i + 1) := by
  obtain ⟨h1, h2⟩ := List.getElem?_eq_some_iff.1 h
  rw [List.drop_eq_getElem_cons h1, h2]

theorem isPattern_ok {H : Hp} {v : Value} {l : List Int} {k : Int} (h : Sl cI H v l) (hk : 0 ≤ k) (hk2 : k ≤ 1000) (hlen : l.length ≤ 1048576) : acall Try.prog 73 [v, .int .i64 k] H (.bool (dec (isPat k l))) H := by
  refine CallK.eq (CallK.enter Try.func73 rfl rfl Try.ntmps73 Try.results73 rfl ?_)
  repeat' (first|refine wA ?_|refine wB ?_|refine wH ?_|refine wI ?_|refine wJ ?_|refine wC ?_|refine wD ?_|refine wE ?_|refine wF ?_|refine wG ?_|refine wK ?_|refine wL ?_|refine wM ?_|refine wN ?_|refine wO ?_|refine wP ?_|refine wQ ?_|refine wR ?_|refine wS ?_|refine wT ?_|refine wU ?_|refine wV ?_|refine wW ?_|refine wX ?_)
  refine Run.loopW (fun (a : Nat × Int) => l.length - a.1) (fun a => up (up (up (up (up jk 0 v) 5 (.int .i64 a.2)) 9 v) 10 (.int .i64 l.length)) 11 (.int .i64 (a.1 : Int))) (fun _ => H) (fun a => a.1 ≤ l.length ∧ k ≤ a.2 ∧ a.2 ≤ k + a.1 ∧ (isPat k l ↔ isPat a.2 (l.drop a.1))) (0, k) rfl (by repeat (first | exact Wk.jk | refine Wk.up rfl ?_)) ⟨by dsimp only; omega, by dsimp only; omega, by dsimp only; omega, by simp⟩ ?_
  rintro ⟨i, t⟩ ⟨hi, h0, h1, hp⟩
  dsimp only at hi h0 h1 hp
  dsimp only
  repeat' (first|refine wA ?_|refine wB ?_|refine wH ?_|refine wI ?_|refine wJ ?_|refine wC ?_|refine wD ?_|refine wE ?_|refine wF ?_|refine wG ?_|refine wK ?_|refine wL ?_|refine wM ?_|refine wN ?_|refine wO ?_|refine wP ?_|refine wQ ?_|refine wR ?_|refine wS ?_|refine wT ?_|refine wU ?_|refine wV ?_|refine wW ?_|refine wX ?_)
  refine Ops.cmp rfl rfl rfl (fun hc => ?_) (fun hc => ?_)
  · repeat' (first|refine wA ?_|refine wB ?_|refine wH ?_|refine wI ?_|refine wJ ?_|refine wC ?_|refine wD ?_|refine wE ?_|refine wF ?_|refine wG ?_|refine wK ?_|refine wL ?_|refine wM ?_|refine wN ?_|refine wO ?_|refine wP ?_|refine wQ ?_|refine wR ?_|refine wS ?_|refine wT ?_|refine wU ?_|refine wV ?_|refine wW ?_|refine wX ?_)
    refine Ops.idxI h rfl (by omega) (by omega) (by kernel_rfl) (by kernel_rfl) fun pz a ha => ?_
    have ha' : l[i]? = some a := ha
    rw [drop_split ha'] at hp
    have e : isPat k l ↔ 0 ≤ a ∧ a ≤ t ∧ isPat (max t (a + 1)) (l.drop (i + 1)) := hp
    repeat' (first|refine wA ?_|refine wB ?_|refine wH ?_|refine wI ?_|refine wJ ?_|refine wC ?_|refine wD ?_|refine wE ?_|refine wF ?_|refine wG ?_|refine wK ?_|refine wL ?_|refine wM ?_|refine wN ?_|refine wO ?_|refine wP ?_|refine wQ ?_|refine wR ?_|refine wS ?_|refine wT ?_|refine wU ?_|refine wV ?_|refine wW ?_|refine wX ?_)
    refine Ops.cmp rfl rfl rfl (fun hc2 => ?_) (fun hc2 => ?_)
    · repeat' (first|refine wA ?_|refine wB ?_|refine wH ?_|refine wI ?_|refine wJ ?_|refine wC ?_|refine wD ?_|refine wE ?_|refine wF ?_|refine wG ?_|refine wK ?_|refine wL ?_|refine wM ?_|refine wN ?_|refine wO ?_|refine wP ?_|refine wQ ?_|refine wR ?_|refine wS ?_|refine wT ?_|refine wU ?_|refine wV ?_|refine wW ?_|refine wX ?_)
      refine Run.ret ⟨.inl rfl, ResK.tmp rfl (by conv => lhs; whnf) (ResK.nil ?_)⟩
      exact ⟨by rw [dec_f (fun h => by have := (e.1 h).1; omega)]; rfl, rfl⟩
    · repeat' (first|refine wA ?_|refine wB ?_|refine wH ?_|refine wI ?_|refine wJ ?_|refine wC ?_|refine wD ?_|refine wE ?_|refine wF ?_|refine wG ?_|refine wK ?_|refine wL ?_|refine wM ?_|refine wN ?_|refine wO ?_|refine wP ?_|refine wQ ?_|refine wR ?_|refine wS ?_|refine wT ?_|refine wU ?_|refine wV ?_|refine wW ?_|refine wX ?_)
      refine Ops.cmp rfl rfl rfl (fun hc3 => ?_) (fun hc3 => ?_)
      · repeat' (first|refine wA ?_|refine wB ?_|refine wH ?_|refine wI ?_|refine wJ ?_|refine wC ?_|refine wD ?_|refine wE ?_|refine wF ?_|refine wG ?_|refine wK ?_|refine wL ?_|refine wM ?_|refine wN ?_|refine wO ?_|refine wP ?_|refine wQ ?_|refine wR ?_|refine wS ?_|refine wT ?_|refine wU ?_|refine wV ?_|refine wW ?_|refine wX ?_)
        refine Run.ret ⟨.inl rfl, ResK.tmp rfl (by conv => lhs; whnf) (ResK.nil ?_)⟩
        exact ⟨by rw [dec_f (fun h => by have := (e.1 h).2.1; omega)]; rfl, rfl⟩
      · repeat' (first|refine wA ?_|refine wB ?_|refine wH ?_|refine wI ?_|refine wJ ?_|refine wC ?_|refine wD ?_|refine wE ?_|refine wF ?_|refine wG ?_|refine wK ?_|refine wL ?_|refine wM ?_|refine wN ?_|refine wO ?_|refine wP ?_|refine wQ ?_|refine wR ?_|refine wS ?_|refine wT ?_|refine wU ?_|refine wV ?_|refine wW ?_|refine wX ?_)
        refine Ops.max rfl rfl ?_
        repeat' (first|refine wA ?_|refine wB ?_|refine wH ?_|refine wI ?_|refine wJ ?_|refine wC ?_|refine wD ?_|refine wE ?_|refine wF ?_|refine wG ?_|refine wK ?_|refine wL ?_|refine wM ?_|refine wN ?_|refine wO ?_|refine wP ?_|refine wQ ?_|refine wR ?_|refine wS ?_|refine wT ?_|refine wU ?_|refine wV ?_|refine wW ?_|refine wX ?_)
        have em : (if a + 1 > t then a + 1 else t) = max t (a + 1) := by rw [Int.max_def]; split <;> split <;> omega
        rw [em]
        refine ⟨(i + 1, max t (a + 1)), by dsimp only; omega, rfl, rfl, by dsimp only; exact (by repeat (first | exact Wk.jk | refine Wk.up rfl ?_)), ?_⟩
        refine ⟨by dsimp only; omega, by dsimp only; omega, by dsimp only; omega, e.trans ⟨fun h => h.2.2, fun h => ⟨by omega, by omega, h⟩⟩⟩
  · repeat' (first|refine wA ?_|refine wB ?_|refine wH ?_|refine wI ?_|refine wJ ?_|refine wC ?_|refine wD ?_|refine wE ?_|refine wF ?_|refine wG ?_|refine wK ?_|refine wL ?_|refine wM ?_|refine wN ?_|refine wO ?_|refine wP ?_|refine wQ ?_|refine wR ?_|refine wS ?_|refine wT ?_|refine wU ?_|refine wV ?_|refine wW ?_|refine wX ?_)
    rw [List.drop_of_length_le (by omega)] at hp
    refine Run.ret ⟨.inl rfl, ResK.tmp rfl (by conv => lhs; whnf) (ResK.nil ?_)⟩
    exact ⟨by rw [dec_t (hp.2 trivial)]; rfl, rfl⟩

theorem isNaN_ok {H : Hp} {x : Int} : acall Try.prog 107 [.int .i64 x] H (.bool false) H := by
  refine CallK.eq (CallK.enter Try.func107 rfl rfl Try.ntmps107 Try.results107 rfl ?_)
  repeat' (first|refine wA ?_|refine wB ?_|refine wH ?_|refine wI ?_|refine wJ ?_|refine wC ?_|refine wD ?_|refine wE ?_|refine wF ?_|refine wG ?_|refine wK ?_|refine wL ?_|refine wM ?_|refine wN ?_|refine wO ?_|refine wP ?_|refine wQ ?_|refine wR ?_|refine wS ?_|refine wT ?_|refine wU ?_|refine wV ?_|refine wW ?_|refine wX ?_)
  refine Ops.cmpn rfl rfl (fun hc => ?_) (fun hc => ?_)
  · contradiction
  · repeat' (first|refine wA ?_|refine wB ?_|refine wH ?_|refine wI ?_|refine wJ ?_|refine wC ?_|refine wD ?_|refine wE ?_|refine wF ?_|refine wG ?_|refine wK ?_|refine wL ?_|refine wM ?_|refine wN ?_|refine wO ?_|refine wP ?_|refine wQ ?_|refine wR ?_|refine wS ?_|refine wT ?_|refine wU ?_|refine wV ?_|refine wW ?_|refine wX ?_)
    refine Run.ret ⟨.inl rfl, ResK.tmp rfl (by conv => lhs; whnf) (ResK.nil ?_)⟩
    exact ⟨rfl, rfl⟩

theorem CompareI_ok {H : Hp} {x y : Int} : acall Try.prog 95 [.int .i64 x, .int .i64 y] H (.int .i64 (if x < y then -1 else if y < x then 1 else 0)) H := by
  refine CallK.eq (CallK.enter Try.func95 rfl rfl Try.ntmps95 Try.results95 rfl ?_)
  repeat' (first|refine wA ?_|refine wB ?_|refine wH ?_|refine wI ?_|refine wJ ?_|refine wC ?_|refine wD ?_|refine wE ?_|refine wF ?_|refine wG ?_|refine wK ?_|refine wL ?_|refine wM ?_|refine wN ?_|refine wO ?_|refine wP ?_|refine wQ ?_|refine wR ?_|refine wS ?_|refine wT ?_|refine wU ?_|refine wV ?_|refine wW ?_|refine wX ?_)
  refine Ops.callE isNaN_ok ?_
  repeat' (first|refine wA ?_|refine wB ?_|refine wH ?_|refine wI ?_|refine wJ ?_|refine wC ?_|refine wD ?_|refine wE ?_|refine wF ?_|refine wG ?_|refine wK ?_|refine wL ?_|refine wM ?_|refine wN ?_|refine wO ?_|refine wP ?_|refine wQ ?_|refine wR ?_|refine wS ?_|refine wT ?_|refine wU ?_|refine wV ?_|refine wW ?_|refine wX ?_)
  refine Ops.callE isNaN_ok ?_
  repeat' (first|refine wA ?_|refine wB ?_|refine wH ?_|refine wI ?_|refine wJ ?_|refine wC ?_|refine wD ?_|refine wE ?_|refine wF ?_|refine wG ?_|refine wK ?_|refine wL ?_|refine wM ?_|refine wN ?_|refine wO ?_|refine wP ?_|refine wQ ?_|refine wR ?_|refine wS ?_|refine wT ?_|refine wU ?_|refine wV ?_|refine wW ?_|refine wX ?_)
  refine Ops.cmp rfl rfl rfl (fun hc => ?_) (fun hc => ?_)
  · repeat' (first|refine wA ?_|refine wB ?_|refine wH ?_|refine wI ?_|refine wJ ?_|refine wC ?_|refine wD ?_|refine wE ?_|refine wF ?_|refine wG ?_|refine wK ?_|refine wL ?_|refine wM ?_|refine wN ?_|refine wO ?_|refine wP ?_|refine wQ ?_|refine wR ?_|refine wS ?_|refine wT ?_|refine wU ?_|refine wV ?_|refine wW ?_|refine wX ?_)
    refine Run.ret ⟨.inl rfl, ResK.tmp rfl (by conv => lhs; whnf) (ResK.nil ?_)⟩
    exact ⟨by rw [if_pos hc]; rfl, rfl⟩
  · repeat' (first|refine wA ?_|refine wB ?_|refine wH ?_|refine wI ?_|refine wJ ?_|refine wC ?_|refine wD ?_|refine wE ?_|refine wF ?_|refine wG ?_|refine wK ?_|refine wL ?_|refine wM ?_|refine wN ?_|refine wO ?_|refine wP ?_|refine wQ ?_|refine wR ?_|refine wS ?_|refine wT ?_|refine wU ?_|refine wV ?_|refine wW ?_|refine wX ?_)
    refine Ops.cmp rfl rfl rfl (fun hc2 => ?_) (fun hc2 => ?_)
    · repeat' (first|refine wA ?_|refine wB ?_|refine wH ?_|refine wI ?_|refine wJ ?_|refine wC ?_|refine wD ?_|refine wE ?_|refine wF ?_|refine wG ?_|refine wK ?_|refine wL ?_|refine wM ?_|refine wN ?_|refine wO ?_|refine wP ?_|refine wQ ?_|refine wR ?_|refine wS ?_|refine wT ?_|refine wU ?_|refine wV ?_|refine wW ?_|refine wX ?_)
      refine Run.ret ⟨.inl rfl, ResK.tmp rfl (by conv => lhs; whnf) (ResK.nil ?_)⟩
      exact ⟨by rw [if_neg hc, if_pos hc2]; rfl, rfl⟩
    · repeat' (first|refine wA ?_|refine wB ?_|refine wH ?_|refine wI ?_|refine wJ ?_|refine wC ?_|refine wD ?_|refine wE ?_|refine wF ?_|refine wG ?_|refine wK ?_|refine wL ?_|refine wM ?_|refine wN ?_|refine wO ?_|refine wP ?_|refine wQ ?_|refine wR ?_|refine wS ?_|refine wT ?_|refine wU ?_|refine wV ?_|refine wW ?_|refine wX ?_)
      refine Run.ret ⟨.inl rfl, ResK.tmp rfl (by conv => lhs; whnf) (ResK.nil ?_)⟩
      exact ⟨by rw [if_neg hc, if_neg hc2]; rfl, rfl⟩

theorem Compare_ok {H : Hp} {v w : Value} {l m : List Int} (h : Sl cI H v l) (h' : Sl cI H w m) : acall Try.prog 74 [v, w] H (.int .i64 (cmpL l m)) H := by
  have hmx := h.max
  simp only [maxLen] at hmx
  refine CallK.eq (CallK.enter Try.func74 rfl rfl Try.ntmps74 Try.results74 rfl ?_)
  repeat' (first|refine wA ?_|refine wB ?_|refine wH ?_|refine wI ?_|refine wJ ?_|refine wC ?_|refine wD ?_|refine wE ?_|refine wF ?_|refine wG ?_|refine wK ?_|refine wL ?_|refine wM ?_|refine wN ?_|refine wO ?_|refine wP ?_|refine wQ ?_|refine wR ?_|refine wS ?_|refine wT ?_|refine wU ?_|refine wV ?_|refine wW ?_|refine wX ?_)
  refine Run.loopW (fun i => l.length - i) (fun (i : Nat) => up (up (up (up (up jk 0 v) 1 w) 9 v) 10 (.int .i64 l.length)) 11 (.int .i64 (i : Int))) (fun _ => H) (fun i => i ≤ l.length ∧ i ≤ m.length ∧ cmpL l m = cmpL (l.drop i) (m.drop i)) 0 rfl (by repeat (first | exact Wk.jk | refine Wk.up rfl ?_)) ⟨by omega, by omega, by simp⟩ ?_
  rintro i ⟨hi, hj, hx⟩
  repeat' (first|refine wA ?_|refine wB ?_|refine wH ?_|refine wI ?_|refine wJ ?_|refine wC ?_|refine wD ?_|refine wE ?_|refine wF ?_|refine wG ?_|refine wK ?_|refine wL ?_|refine wM ?_|refine wN ?_|refine wO ?_|refine wP ?_|refine wQ ?_|refine wR ?_|refine wS ?_|refine wT ?_|refine wU ?_|refine wV ?_|refine wW ?_|refine wX ?_)
  refine Ops.cmp rfl rfl rfl (fun hc => ?_) (fun hc => ?_)
  · repeat' (first|refine wA ?_|refine wB ?_|refine wH ?_|refine wI ?_|refine wJ ?_|refine wC ?_|refine wD ?_|refine wE ?_|refine wF ?_|refine wG ?_|refine wK ?_|refine wL ?_|refine wM ?_|refine wN ?_|refine wO ?_|refine wP ?_|refine wQ ?_|refine wR ?_|refine wS ?_|refine wT ?_|refine wU ?_|refine wV ?_|refine wW ?_|refine wX ?_)
    refine Ops.idxI h rfl (by omega) (by omega) (by kernel_rfl) (by kernel_rfl) fun pz a ha => ?_
    have ha' : l[i]? = some a := ha
    repeat' (first|refine wA ?_|refine wB ?_|refine wH ?_|refine wI ?_|refine wJ ?_|refine wC ?_|refine wD ?_|refine wE ?_|refine wF ?_|refine wG ?_|refine wK ?_|refine wL ?_|refine wM ?_|refine wN ?_|refine wO ?_|refine wP ?_|refine wQ ?_|refine wR ?_|refine wS ?_|refine wT ?_|refine wU ?_|refine wV ?_|refine wW ?_|refine wX ?_)
    refine Ops.cmp rfl rfl rfl (fun hc2 => ?_) (fun hc2 => ?_)
    · repeat' (first|refine wA ?_|refine wB ?_|refine wH ?_|refine wI ?_|refine wJ ?_|refine wC ?_|refine wD ?_|refine wE ?_|refine wF ?_|refine wG ?_|refine wK ?_|refine wL ?_|refine wM ?_|refine wN ?_|refine wO ?_|refine wP ?_|refine wQ ?_|refine wR ?_|refine wS ?_|refine wT ?_|refine wU ?_|refine wV ?_|refine wW ?_|refine wX ?_)
      refine Run.ret ⟨.inl rfl, ResK.tmp rfl (by conv => lhs; whnf) (ResK.nil ?_)⟩
      exact ⟨by rw [hx, cmpL_end (by omega) hi hj, if_neg (by omega), if_pos (by omega)]; rfl, rfl⟩
    · repeat' (first|refine wA ?_|refine wB ?_|refine wH ?_|refine wI ?_|refine wJ ?_|refine wC ?_|refine wD ?_|refine wE ?_|refine wF ?_|refine wG ?_|refine wK ?_|refine wL ?_|refine wM ?_|refine wN ?_|refine wO ?_|refine wP ?_|refine wQ ?_|refine wR ?_|refine wS ?_|refine wT ?_|refine wU ?_|refine wV ?_|refine wW ?_|refine wX ?_)
      refine Ops.idxI h' rfl (by omega) (by omega) (by kernel_rfl) (by kernel_rfl) fun pz b hb => ?_
      have hb' : m[i]? = some b := hb
      have e := cmpL_step ha' hb'
      repeat' (first|refine wA ?_|refine wB ?_|refine wH ?_|refine wI ?_|refine wJ ?_|refine wC ?_|refine wD ?_|refine wE ?_|refine wF ?_|refine wG ?_|refine wK ?_|refine wL ?_|refine wM ?_|refine wN ?_|refine wO ?_|refine wP ?_|refine wQ ?_|refine wR ?_|refine wS ?_|refine wT ?_|refine wU ?_|refine wV ?_|refine wW ?_|refine wX ?_)
      refine Ops.callE CompareI_ok ?_
      repeat' (first|refine wA ?_|refine wB ?_|refine wH ?_|refine wI ?_|refine wJ ?_|refine wC ?_|refine wD ?_|refine wE ?_|refine wF ?_|refine wG ?_|refine wK ?_|refine wL ?_|refine wM ?_|refine wN ?_|refine wO ?_|refine wP ?_|refine wQ ?_|refine wR ?_|refine wS ?_|refine wT ?_|refine wU ?_|refine wV ?_|refine wW ?_|refine wX ?_)
      refine Ops.cmpn rfl rfl (fun hc3 => ?_) (fun hc3 => ?_)
      · repeat' (first|refine wA ?_|refine wB ?_|refine wH ?_|refine wI ?_|refine wJ ?_|refine wC ?_|refine wD ?_|refine wE ?_|refine wF ?_|refine wG ?_|refine wK ?_|refine wL ?_|refine wM ?_|refine wN ?_|refine wO ?_|refine wP ?_|refine wQ ?_|refine wR ?_|refine wS ?_|refine wT ?_|refine wU ?_|refine wV ?_|refine wW ?_|refine wX ?_)
        refine Run.ret ⟨.inl rfl, ResK.tmp rfl (by conv => lhs; whnf) (ResK.nil ?_)⟩
        refine ⟨?_, rfl⟩
        rw [hx, e]
        split
        · rfl
        · rename_i h5; rw [if_neg h5] at hc3
          split
          · rfl
          · rename_i h6; rw [if_neg h6] at hc3; exact absurd rfl hc3
      · repeat' (first|refine wA ?_|refine wB ?_|refine wH ?_|refine wI ?_|refine wJ ?_|refine wC ?_|refine wD ?_|refine wE ?_|refine wF ?_|refine wG ?_|refine wK ?_|refine wL ?_|refine wM ?_|refine wN ?_|refine wO ?_|refine wP ?_|refine wQ ?_|refine wR ?_|refine wS ?_|refine wT ?_|refine wU ?_|refine wV ?_|refine wW ?_|refine wX ?_)
        refine ⟨i + 1, by dsimp only; omega, rfl, rfl, by dsimp only; exact (by repeat (first | exact Wk.jk | refine Wk.up rfl ?_)), ?_⟩
        refine ⟨by omega, by omega, ?_⟩
        rw [hx, e]
        split at hc3
        · cases hc3
        · rename_i h5; rw [if_neg h5]
          split at hc3
          · cases hc3
          · rename_i h6; rw [if_neg h6]
  · repeat' (first|refine wA ?_|refine wB ?_|refine wH ?_|refine wI ?_|refine wJ ?_|refine wC ?_|refine wD ?_|refine wE ?_|refine wF ?_|refine wG ?_|refine wK ?_|refine wL ?_|refine wM ?_|refine wN ?_|refine wO ?_|refine wP ?_|refine wQ ?_|refine wR ?_|refine wS ?_|refine wT ?_|refine wU ?_|refine wV ?_|refine wW ?_|refine wX ?_)
    refine Ops.cmp rfl rfl rfl (fun hc2 => ?_) (fun hc2 => ?_)
    · repeat' (first|refine wA ?_|refine wB ?_|refine wH ?_|refine wI ?_|refine wJ ?_|refine wC ?_|refine wD ?_|refine wE ?_|refine wF ?_|refine wG ?_|refine wK ?_|refine wL ?_|refine wM ?_|refine wN ?_|refine wO ?_|refine wP ?_|refine wQ ?_|refine wR ?_|refine wS ?_|refine wT ?_|refine wU ?_|refine wV ?_|refine wW ?_|refine wX ?_)
      refine Run.ret ⟨.inl rfl, ResK.tmp rfl (by conv => lhs; whnf) (ResK.nil ?_)⟩
      exact ⟨by rw [hx, cmpL_end (by omega) hi hj, if_pos (by omega)]; rfl, rfl⟩
    · repeat' (first|refine wA ?_|refine wB ?_|refine wH ?_|refine wI ?_|refine wJ ?_|refine wC ?_|refine wD ?_|refine wE ?_|refine wF ?_|refine wG ?_|refine wK ?_|refine wL ?_|refine wM ?_|refine wN ?_|refine wO ?_|refine wP ?_|refine wQ ?_|refine wR ?_|refine wS ?_|refine wT ?_|refine wU ?_|refine wV ?_|refine wW ?_|refine wX ?_)
      refine Run.ret ⟨.inl rfl, ResK.tmp rfl (by conv => lhs; whnf) (ResK.nil ?_)⟩
      exact ⟨by rw [hx, cmpL_end (by omega) hi hj, if_neg (by omega), if_neg (by omega)]; rfl, rfl⟩

end Go.Proofs.Ytefmjpbmdoebaaa
