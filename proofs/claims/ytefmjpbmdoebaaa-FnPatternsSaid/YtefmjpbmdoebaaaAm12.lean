/- The abstract machine, part 12: data in rows, read and gathered. -/
import Derived.Test.YtefmjpbmdoebaaaAm11
set_option linter.unusedVariables false
set_option linter.unusedSimpArgs false
namespace Go.Proofs.Ytefmjpbmdoebaaa
open Go Go.RowKit

/-- n cells from k on. -/
def cut (cs : List Value) (k n : Nat) : List Value := (cs.drop k).take n

theorem cut_get {cs : List Value} {k n j : Nat} (hj : j < n) : (cut cs k n)[j]? = cs[k + j]? := by
  unfold cut
  rw [List.getElem?_take_of_lt hj, List.getElem?_drop]

theorem cut_len {cs : List Value} {k n : Nat} (h : (cut cs k n).length = n) (hn : 0 < n) : k + n ≤ cs.length := by
  unfold cut at h
  rw [List.length_take, List.length_drop] at h; omega

/-- How a kind of data lies in cells. -/
structure Cd (α : Type) where
  sz : Nat
  ok : Hp → List Value → α → Prop
  pos : 0 < sz
  len : ∀ {H cs a}, ok H cs a → cs.length = sz
  one : ∀ {H cs a}, ok H cs a → cs.all Value.one = true
  calm : ∀ {H H' cs a}, Calm H H' → ok H cs a → ok H' cs a

/-- Whole numbers. -/
def cI : Cd Int where
  sz := 1
  ok := fun _ cs n => cs = [.int .i64 n]
  pos := by omega
  len := fun h => by rw [h]; rfl
  one := fun h => by rw [h]; rfl
  calm := fun _ h => h

/-- Bytes. -/
def cB : Cd Int where
  sz := 1
  ok := fun _ cs n => cs = [.int .u8 n]
  pos := by omega
  len := fun h => by rw [h]; rfl
  one := fun h => by rw [h]; rfl
  calm := fun _ h => h

/-- Booleans. -/
def cBo : Cd Bool where
  sz := 1
  ok := fun _ cs n => cs = [.bool n]
  pos := by omega
  len := fun h => by rw [h]; rfl
  one := fun h => by rw [h]; rfl
  calm := fun _ h => h

/-- A slot's value is the datum. -/
def Vl {α : Type} (c : Cd α) (H : Hp) (v : Value) (a : α) : Prop := c.ok H (cellsOf v) a

/-- The slice without memory. -/
abbrev nilS : Value := .slice none 0 0

/-- A slice: the list. -/
def Sl {α : Type} (c : Cd α) (H : Hp) (v : Value) (l : List α) : Prop :=
  (l = [] ∧ ∃ p : Option Addr, v = .slice p 0 0 ∧ ∀ a, p = some a → a.spot = none → a.block < H.nxt) ∨ ∃ id off ob, v = .slice (some ⟨id, off, none⟩) l.length l.length ∧ H.get id = some ob ∧ (ob.sz = c.sz ∨ ob.sz = 0) ∧ l.length ≤ maxLen ∧ ∀ (i : Nat) (a : α), l[i]? = some a → c.ok H (cut ob.cs (off + i * c.sz) c.sz) a

/-- A slice of the call's own, to which may be appended: the list. Its row's root is k or later. -/
def Ac {α : Type} (c : Cd α) (e k : Nat) (H : Hp) (v : Value) (l : List α) : Prop :=
  (v = nilS ∧ l = []) ∨ ∃ id ob, v = .slice (some ⟨id, 0, none⟩) l.length l.length ∧ H.get id = some ob ∧ H.own id = true ∧ k ≤ H.root id ∧ ob.e = e ∧ ob.sz = c.sz ∧ l.length ≤ maxLen ∧ ob.cs.length = l.length * c.sz ∧ ∀ (i : Nat) (a : α), l[i]? = some a → c.ok H (cut ob.cs (i * c.sz) c.sz) a

def idOf : Value → Option Nat
  | .slice (some ⟨b, _, none⟩) _ _ => some b
  | .pointer (some ⟨b, _, none⟩) => some b
  | _ => none

/-- Two slices that do not stand for one row. -/
def Ap (u v : Value) : Prop := ∀ i, idOf u = some i → idOf v ≠ some i

theorem Ap.symm {u v : Value} (h : Ap u v) : Ap v u := fun i h1 h2 => h i h2 h1
theorem Ap.nil_l {v : Value} : Ap nilS v := fun i h => by cases h
theorem Ap.nil_r {v : Value} : Ap v nilS := fun i _ h => by cases h

/-- The value's row is there. -/
def Live (H : Hp) (v : Value) : Prop := ∀ i, idOf v = some i → i < H.nxt

/-- The value in a slice's cell. -/
def CellAt (H : Hp) (v : Value) (i : Nat) (u : Value) : Prop := ∃ id off ob n, v = .slice (some ⟨id, off, none⟩) n n ∧ H.get id = some ob ∧ ob.cs[off + i]? = some u

section
variable {α : Type} {c : Cd α} {H H' H0 : Hp} {v u : Value} {l : List α} {e k : Nat}

theorem Sl.nil : Sl c H nilS [] := .inl ⟨rfl, none, rfl, fun _ h _ => by cases h⟩
theorem Ac.nil : Ac c e k H nilS [] := .inl ⟨rfl, rfl⟩

theorem Sl.calm (h : Sl c H v l) (hc : Calm H H') : Sl c H' v l := by
  rcases h with ⟨h, p, h1, h2⟩ | ⟨id, off, ob, h1, h2, h3, h4, h5⟩
  · exact .inl ⟨h, p, h1, fun a ha hs => Nat.lt_of_lt_of_le (h2 a ha hs) hc.1⟩
  · exact .inr ⟨id, off, ob, h1, (hc.2 id (Hp.lt h2)).1.trans h2, h3, h4, fun i a hi => c.calm hc (h5 i a hi)⟩

theorem Ac.calm (h : Ac c e k H v l) (hc : Calm H H') : Ac c e k H' v l := by
  rcases h with h | ⟨id, ob, h1, h2, h3, h4, h5, h6, h7, h8, h9⟩
  · exact .inl h
  · obtain ⟨e1, e2, e3⟩ := hc.2 id (Hp.lt h2)
    exact .inr ⟨id, ob, h1, e1.trans h2, e2.trans h3, by rw [e3]; exact h4, h5, h6, h7, h8, fun i a hi => c.calm hc (h9 i a hi)⟩

theorem Ac.sl (h : Ac c e k H v l) : Sl c H v l := by
  rcases h with ⟨h, h'⟩ | ⟨id, ob, h1, h2, h3, h4, h5, h6, h7, h8, h9⟩
  · exact .inl ⟨h', none, h, fun _ h _ => by cases h⟩
  · exact .inr ⟨id, 0, ob, h1, h2, .inl h6, h7, fun i a hi => by rw [Nat.zero_add]; exact h9 i a hi⟩

theorem Ac.older {k' : Nat} (h : Ac c e k H v l) (hk : k' ≤ k) : Ac c e k' H v l := by
  rcases h with h | ⟨id, ob, h1, h2, h3, h4, h5⟩
  · exact .inl h
  · exact .inr ⟨id, ob, h1, h2, h3, Nat.le_trans hk h4, h5⟩

theorem Sl.val (h : Sl c H v l) : ∃ p, v = .slice p l.length l.length := by
  rcases h with ⟨h, p, h1, _⟩ | ⟨id, off, ob, h1, _⟩
  · subst h; exact ⟨p, h1⟩
  · exact ⟨_, h1⟩

theorem Sl.max (h : Sl c H v l) : l.length ≤ maxLen := by
  rcases h with ⟨h, _⟩ | ⟨id, off, ob, h1, h2, h3, h4, _⟩
  · subst h; simp
  · exact h4

theorem Sl.live (h : Sl c H v l) : Live H v := by
  intro i hi
  rcases h with ⟨_, p, h1, h2⟩ | ⟨id, off, ob, h1, h2, _⟩
  · subst h1
    match p, hi, h2 with
    | some ⟨b, o, none⟩, hi, h2 => cases hi; exact h2 _ rfl rfl
  · subst h1; cases hi; exact Hp.lt h2

theorem Ac.live (h : Ac c e k H v l) : Live H v := h.sl.live

theorem Live.calm (h : Live H v) (hc : Calm H H') : Live H' v := fun i hi => Nat.lt_of_lt_of_le (h i hi) hc.1

/-- What a call has made is no old row. -/
theorem Ac.ap (h : Ac c e k H v l) (hk : H0.nxt ≤ k) (hu : Live H0 u) : Ap u v := by
  intro i hi hv
  have := hu i hi
  rcases h with ⟨h, h'⟩ | ⟨id, ob, h1, h2, h3, h4, _⟩
  · subst h; cases hv
  · subst h1
    injection hv with hv
    have hv' : id = i := hv
    subst hv'
    have := H.rt id (Hp.lt h2)
    omega

/-- The same slice, with other contents. -/
theorem Sl.reset {l' : List α} (h : Sl c H v l) (hs : c.sz = 1) (hn : H.nxt ≤ H'.nxt) (hout : ∀ id, idOf v = some id → l ≠ [] → H'.get id = H.get id) (hlen : l'.length = l.length)
    (hel : ∀ j u a b, CellAt H v j u → l[j]? = some a → c.ok H [u] a → l'[j]? = some b → c.ok H' [u] b) : Sl c H' v l' := by
  by_cases hl : l = []
  · subst hl
    have hl' : l' = [] := List.length_eq_zero_iff.1 (by simpa using hlen)
    subst hl'
    obtain ⟨p, hp⟩ := h.val
    have hlv := h.live
    exact .inl ⟨rfl, p, hp, fun a ha hs => Nat.lt_of_lt_of_le (hlv _ (by obtain ⟨b, o, s⟩ := a; dsimp only at hs; subst hs ha; rw [hp]; rfl)) hn⟩
  · rcases h with ⟨h, _⟩ | ⟨id, off, ob, h1, h2, h3, h4, h5⟩
    · exact absurd h hl
    · refine .inr ⟨id, off, ob, by rw [hlen]; exact h1, (hout id (by rw [h1]; rfl) hl).trans h2, h3, by rw [hlen]; exact h4, fun i b hi => ?_⟩
      have hlt : i < l.length := by rw [← hlen]; exact (List.getElem?_eq_some_iff.1 hi).1
      have ha : l[i]? = some l[i] := List.getElem?_eq_getElem hlt
      have hok := h5 i _ ha
      have hcl := c.len hok
      rw [hs] at hok hcl ⊢
      obtain ⟨u, hu⟩ := List.length_eq_one_iff.1 hcl
      rw [hu] at hok ⊢
      have hu2 : ob.cs[off + i]? = some u := by
        have := cut_get (cs := ob.cs) (k := off + i * 1) (n := 1) (j := 0) (by omega)
        rw [hu, Nat.mul_one] at this; exact this.symm
      exact hel i u _ b ⟨id, off, ob, _, h1, h2, hu2⟩ ha hok hi

end

/-- Nothing is lost; the row of v may be no longer the call's own. -/
def Kp (H : Hp) (v : Value) (H' : Hp) : Prop := H.nxt ≤ H'.nxt ∧ ∀ id, id < H.nxt → H'.get id = H.get id ∧ H'.root id = H.root id ∧ (idOf v ≠ some id → H'.own id = H.own id)

section
variable {α β : Type} {c : Cd α} {c' : Cd β} {H H' H0 : Hp} {v u : Value} {l : List α} {m : List β} {e k k' e' : Nat}

theorem Kp.of_calm (h : Calm H H') : Kp H v H' := ⟨h.1, fun id hi => ⟨(h.2 id hi).1, (h.2 id hi).2.2, fun _ => (h.2 id hi).2.1⟩⟩

end

/-- A type of slices whose elements take sz cells. -/
def slA (P : Program) (t sz : Nat) : Bool :=
  match P.underlying t with
  | some (.slice e) =>
    match P.info? e with
    | some i => i.size == sz && decide (i.bytes ≤ 4096) && (match i.zero with | some z => (cellsOf z).length == sz && (cellsOf z).all Value.still | none => false)
    | none => false
  | _ => false

theorem slA_at {P : Program} {t sz : Nat} (h : slA P t sz = true) : ∃ i z, P.underlying t = some (.slice (P.elem t)) ∧ P.info? (P.elem t) = some i ∧ i.size = sz ∧ i.bytes ≤ 4096 ∧ i.zero = some z ∧ (cellsOf z).length = sz ∧ (cellsOf z).all Value.still = true := by
  unfold slA at h
  split at h
  · rename_i e he
    have hel : P.elem t = e := by simp [Program.elem, he]
    rw [hel]
    split at h
    · rename_i i hi
      simp only [Bool.and_eq_true, beq_iff_eq, decide_eq_true_eq] at h
      obtain ⟨⟨h1, h2⟩, h3⟩ := h
      split at h3
      · rename_i z hz
        simp only [Bool.and_eq_true, beq_iff_eq] at h3
        exact ⟨i, z, he, hi, h1, h2, hz, h3.1, h3.2⟩
      · cases h3
    · cases h
  · cases h

/-- Is the type's value one of several cells? -/
def agT (P : Program) (t : Nat) (b : Bool) : Bool := match P.underlying t with | some d => aggB d == b | none => false
theorem agT_at {P : Program} {t : Nat} {b : Bool} (h : agT P t b = true) : ∃ d, P.underlying t = some d ∧ aggB d = b := by
  unfold agT at h
  split at h
  · rename_i d hd; exact ⟨d, hd, by simpa using h⟩
  · cases h

section
variable {P : Program} {fl : Bool} {all : Array Oper} {rest : List Oper} {n : Nat} {T : Nat → Value} {H H' : Hp} {K : St → Prop} {d d1 d2 : Nat} {ty ty1 ty2 : TypeId} {ps ps1 ps2 : String} {af af1 af2 : Array Edge} {v : Value} {x y : Operand} {α : Type} {c : Cd α} {l : List α}

/-- A pointer names its row. -/
theorem mention {op : Op} {T : Nat → Value} {x : Operand} {id off : Nat} (hx : x ∈ op.operands) (hp : rd T x = .pointer (some ⟨id, off, none⟩)) : ∀ (β : Bm) (ev : Operand → Value), (∀ x ∈ op.operands, VR β (rd T x) (ev x)) → ∃ p, β id = some p := by
  intro β ev h
  have h1 := h x hx
  rw [hp] at h1
  generalize ev x = u at h1
  cases h1 with
  | ptr hb => exact ⟨_, hb⟩

theorem Ops.len {t : TypeId} (h : Sl c H (rd T x) l) (ht : slA P t c.sz = true) (k : Ops P fl all rest ⟨n, up T d (.int .i64 l.length), H⟩ K) :
    Ops P fl all (⟨some d, .call { callee := .builtin .len, args := #[x], argTypes := #[t] }, ty, ps, af, none⟩ :: rest) ⟨n, T, H⟩ K := by
  obtain ⟨p, hp⟩ := h.val
  obtain ⟨i, z, h1, _⟩ := slA_at ht
  exact .go rfl (fun _ => aev_len rfl rfl h1 hp) k

/-- x[y] of elements of one cell. -/
theorem Ops.idxC {t te : TypeId} {ki : IntKind} {j : Int} (h : Sl c H (rd T x) l) (hs : c.sz = 1) (hy : rd T y = .int ki j) (h0 : 0 ≤ j) (hj : j.toNat < l.length) (ht : slA P t 1 = true) (hte : agT P te false = true)
    (k : ∀ p v a, l[j.toNat]? = some a → c.ok H [v] a → CellAt H (rd T x) j.toNat v → Ops P fl all rest ⟨n, up (up T d1 p) d2 v, H⟩ K) :
    Ops P fl all (⟨some d1, .indexAddr t x y, ty1, ps1, af1, none⟩ :: ⟨some d2, .load te (.tmp d1), ty2, ps2, af2, none⟩ :: rest) ⟨n, T, H⟩ K := by
  obtain ⟨i, z, h1, h2, h3, _⟩ := slA_at ht
  obtain ⟨dd, h4, h5⟩ := agT_at hte
  rcases h with ⟨h, _⟩ | ⟨id, off, ob, e1, e2, e3, e4, e5⟩
  · subst h; simp at hj
  · have ha : l[j.toNat]? = some l[j.toNat] := List.getElem?_eq_getElem hj
    have hok := e5 _ _ ha
    rw [hs] at hok
    have hcl := c.len hok
    rw [hs] at hcl
    obtain ⟨v, hv⟩ := List.length_eq_one_iff.1 hcl
    have hv2 : ob.cs[off + j.toNat * i.size]? = some v := by
      have := cut_get (cs := ob.cs) (k := off + j.toNat * 1) (n := 1) (j := 0) (by omega)
      rw [hv] at this
      rw [h3]; exact this.symm
    rw [hv] at hok
    refine .go (v := .pointer (some ⟨id, off + j.toNat * i.size, none⟩)) rfl (fun _ => aev_indexAddr rfl h1 h2 e1 hy h0 (by omega)) ?_
    have hp : rd (up T d1 (.pointer (some ⟨id, off + j.toNat * i.size, none⟩))) (.tmp d1) = .pointer (some ⟨id, off + j.toNat * i.size, none⟩) := if_pos rfl
    exact .get rfl e2 (mention (by simp [Op.operands]) hp) (fun _ hg => aev_load rfl h4 h5 hp hg hv2) (k _ v _ ha hok ⟨id, off, ob, _, e1, e2, by rw [← hv2, h3, Nat.mul_one]⟩)

theorem Ops.idx {t te : TypeId} {ki : IntKind} {j : Int} (h : Sl c H (rd T x) l) (hs : c.sz = 1) (hy : rd T y = .int ki j) (h0 : 0 ≤ j) (hj : j.toNat < l.length) (ht : slA P t 1 = true) (hte : agT P te false = true)
    (k : ∀ p v a, l[j.toNat]? = some a → c.ok H [v] a → Ops P fl all rest ⟨n, up (up T d1 p) d2 v, H⟩ K) :
    Ops P fl all (⟨some d1, .indexAddr t x y, ty1, ps1, af1, none⟩ :: ⟨some d2, .load te (.tmp d1), ty2, ps2, af2, none⟩ :: rest) ⟨n, T, H⟩ K :=
  .idxC h hs hy h0 hj ht hte fun p v a ha hok _ => k p v a ha hok

/-- x[y] of whole numbers. -/
theorem Ops.idxI {t te : TypeId} {ki : IntKind} {j : Int} {l : List Int} (h : Sl cI H (rd T x) l) (hy : rd T y = .int ki j) (h0 : 0 ≤ j) (hj : j.toNat < l.length) (ht : slA P t 1 = true) (hte : agT P te false = true)
    (k : ∀ p a, l[j.toNat]? = some a → Ops P fl all rest ⟨n, up (up T d1 p) d2 (.int .i64 a), H⟩ K) :
    Ops P fl all (⟨some d1, .indexAddr t x y, ty1, ps1, af1, none⟩ :: ⟨some d2, .load te (.tmp d1), ty2, ps2, af2, none⟩ :: rest) ⟨n, T, H⟩ K :=
  .idx h rfl hy h0 hj ht hte fun p v a ha hv => by cases hv; exact k p a ha

theorem wrap_in {x : Int} (h1 : -9223372036854775808 ≤ x) (h2 : x ≤ 9223372036854775807) : IntKind.i64.wrap x = x := by
  rw [IntKind.wrap_i64]; omega

theorem Ops.move (hx : rd T x = v) (k : Ops P fl all rest ⟨n, up T d v, H⟩ K) : Ops P fl all (⟨some d, .move x, ty, ps, af, none⟩ :: rest) ⟨n, T, H⟩ K := .go rfl (fun _ => hx ▸ aev_move rfl) k
theorem Ops.assign (hx : rd T x = v) (k : Ops P fl all rest ⟨n, up T d v, H⟩ K) : Ops P fl all (⟨some d, .assign x, ty, ps, af, none⟩ :: rest) ⟨n, T, H⟩ K := .go rfl (fun _ => hx ▸ aev_assign rfl) k

theorem Ops.add {t u : TypeId} {a b : Int} (hx : rd T x = .int .i64 a) (hy : rd T y = .int .i64 b) (h1 : -9223372036854775808 ≤ a + b) (h2 : a + b ≤ 9223372036854775807) (k : Ops P fl all rest ⟨n, up T d (.int .i64 (a + b)), H⟩ K) :
    Ops P fl all (⟨some d, .binOp .add t x y u, ty, ps, af, none⟩ :: rest) ⟨n, T, H⟩ K :=
  .go rfl (fun _ => aev_bin rfl hx hy (by show some (Value.int .i64 (IntKind.i64.wrap (a + b))) = _; rw [wrap_in h1 h2])) k
theorem Ops.sub {t u : TypeId} {a b : Int} (hx : rd T x = .int .i64 a) (hy : rd T y = .int .i64 b) (h1 : -9223372036854775808 ≤ a - b) (h2 : a - b ≤ 9223372036854775807) (k : Ops P fl all rest ⟨n, up T d (.int .i64 (a - b)), H⟩ K) :
    Ops P fl all (⟨some d, .binOp .sub t x y u, ty, ps, af, none⟩ :: rest) ⟨n, T, H⟩ K :=
  .go rfl (fun _ => aev_bin rfl hx hy (by show some (Value.int .i64 (IntKind.i64.wrap (a - b))) = _; rw [wrap_in h1 h2])) k
theorem Ops.mul {t u : TypeId} {a b : Int} (hx : rd T x = .int .i64 a) (hy : rd T y = .int .i64 b) (h1 : -9223372036854775808 ≤ a * b) (h2 : a * b ≤ 9223372036854775807) (k : Ops P fl all rest ⟨n, up T d (.int .i64 (a * b)), H⟩ K) :
    Ops P fl all (⟨some d, .binOp .mul t x y u, ty, ps, af, none⟩ :: rest) ⟨n, T, H⟩ K :=
  .go rfl (fun _ => aev_bin rfl hx hy (by show some (Value.int .i64 (IntKind.i64.wrap (a * b))) = _; rw [wrap_in h1 h2])) k

/-- A comparison: both ways. -/
theorem Ops.cmp {op : BinOp} {t u : TypeId} {ki : IntKind} {a b : Int} {p : Prop} [Decidable p] (hx : rd T x = .int ki a) (hy : rd T y = .int ki b) (hv : ibin op ki a b = some (.bool (decide p)))
    (k1 : p → Ops P fl all rest ⟨n, up T d (.bool true), H⟩ K) (k2 : ¬ p → Ops P fl all rest ⟨n, up T d (.bool false), H⟩ K) :
    Ops P fl all (⟨some d, .binOp op t x y u, ty, ps, af, none⟩ :: rest) ⟨n, T, H⟩ K := by
  by_cases hp : p
  · exact .go rfl (fun _ => aev_bin rfl hx hy (by rw [hv]; simp [hp])) (k1 hp)
  · exact .go rfl (fun _ => aev_bin rfl hx hy (by rw [hv]; simp [hp])) (k2 hp)
theorem Ops.cmpn {t u : TypeId} {ki : IntKind} {a b : Int} (hx : rd T x = .int ki a) (hy : rd T y = .int ki b)
    (k1 : a ≠ b → Ops P fl all rest ⟨n, up T d (.bool true), H⟩ K) (k2 : a = b → Ops P fl all rest ⟨n, up T d (.bool false), H⟩ K) :
    Ops P fl all (⟨some d, .binOp .neq t x y u, ty, ps, af, none⟩ :: rest) ⟨n, T, H⟩ K := by
  by_cases hp : a = b
  · exact .go rfl (fun _ => aev_bin rfl hx hy (by show some (Value.bool (!decide (a = b))) = _; simp [hp])) (k2 hp)
  · exact .go rfl (fun _ => aev_bin rfl hx hy (by show some (Value.bool (!decide (a = b))) = _; simp [hp])) (k1 hp)

theorem Ops.call {f : FuncId} {xs : Array Operand} {ts : Array TypeId} {K' : Value → Hp → Prop} (h : CallK P f (xs.toList.map (rd T)) H K') (hg : ∀ r H', K' r H' → fl = true → GE H H') (k : ∀ r H', K' r H' → Ops P fl all rest ⟨n, up T d r, H'⟩ K) :
    Ops P fl all (⟨some d, .call { callee := .value (.func f), args := xs, argTypes := ts }, ty, ps, af, none⟩ :: rest) ⟨n, T, H⟩ K := by
  obtain ⟨r, H', h1, h2⟩ := h.out
  exact .chain rfl (aev_call (n := f) (first := #[]) (caps := #[]) rfl rfl (by simpa using h1)) (hg r H' h2) (k r H' h2)

theorem GE.refl' (H : Hp) : GE H H := ⟨Nat.le_refl _, fun _ _ => .inl rfl⟩

/-- A call whose result is known, and which leaves the memory alone. -/
theorem Ops.callE {f : FuncId} {xs : Array Operand} {ts : Array TypeId} {r : Value} (h : acall P f (xs.toList.map (rd T)) H r H) (k : Ops P fl all rest ⟨n, up T d r, H⟩ K) :
    Ops P fl all (⟨some d, .call { callee := .value (.func f), args := xs, argTypes := ts }, ty, ps, af, none⟩ :: rest) ⟨n, T, H⟩ K :=
  .chain rfl (aev_call (n := f) (first := #[]) (caps := #[]) rfl rfl (by simpa using h)) (fun _ => GE.refl' H) k

end
end Go.Proofs.Ytefmjpbmdoebaaa
