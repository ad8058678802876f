/- The abstract machine, part 14: guards, choices, literals, made rows, stores. -/
import Derived.Test.YtefmjpbmdoebaaaAm13
import Derived.Laws.Cover3
set_option linter.unusedVariables false
set_option linter.unusedSimpArgs false
namespace Go.Proofs.Ytefmjpbmdoebaaa
open Go Go.RowKit

section
variable {P : Program} {fl : Bool} {all : Array Oper} {rest : List Oper} {n : Nat} {T : Nat → Value} {H H' : Hp} {K : St → Prop} {d d1 d2 : Nat} {ty ty1 ty2 : TypeId} {ps ps1 ps2 : String} {af af1 af2 : Array Edge} {op op1 op2 : Op} {v : Value} {x y z : Operand} {α : Type} {c : Cd α} {l m : List α} {e k : Nat}

theorem aev_guard {dst : Option Nat} {g : Nat × Bool} {ρ : Operand → Value} (h : aev P ⟨dst, op, ty, ps, af, none⟩ ρ H v H') : aev P ⟨dst, op, ty, ps, af, some g⟩ ρ H v H' := h
theorem anew_guard {dst : Option Nat} {g : Nat × Bool} {ρ : Operand → Value} {ob : Ob} {f : Nat → Value} (h : anew P ⟨dst, op, ty, ps, af, none⟩ ρ ob f) : anew P ⟨dst, op, ty, ps, af, some g⟩ ρ ob f := h
theorem stepF_guard {dst : Option Nat} {g : Nat × Bool} {S : St} (h : StepF fl P ⟨dst, op, ty, ps, af, none⟩ S v H') : StepF fl P ⟨dst, op, ty, ps, af, some g⟩ S v H' := by
  cases fl
  · exact h
  · change StepC P ⟨dst, op, ty, ps, af, none⟩ S v H' at h
    show StepC P ⟨dst, op, ty, ps, af, some g⟩ S v H'
    unfold StepC at h ⊢
    exact h

theorem Ops.un {dst : Option Nat} {j dj : Nat} {b : Bool} (hj : (all[j]?).bind (·.dst) = some dj) (hb : T dj = .bool b) (h : Ops P fl all (⟨dst, op, ty, ps, af, none⟩ :: rest) ⟨n, T, H⟩ K) : Ops P fl all (⟨dst, op, ty, ps, af, some (j, b)⟩ :: rest) ⟨n, T, H⟩ K := by
  unfold Ops at h ⊢
  obtain ⟨S', h1, h2⟩ := h
  refine ⟨S', ?_, h2⟩
  have hj' : ((all[j]?).bind fun x => x.dst) = some dj := hj
  cases h1 with
  | go hg he hr => exact .go (by unfold gw; simp only [hj', hb]; simp) (stepF_guard he) hr
  | skip hg hr => cases hg

theorem Ops.un2 {dst : Option Nat} {j dj : Nat} {b : Bool} (hj : (all[j]?).bind (·.dst) = some dj) (hb : T dj = .bool b) (hne : d1 ≠ dj) (h : Ops P fl all (⟨some d1, op1, ty1, ps1, af1, none⟩ :: ⟨dst, op, ty, ps, af, none⟩ :: rest) ⟨n, T, H⟩ K) :
    Ops P fl all (⟨some d1, op1, ty1, ps1, af1, some (j, b)⟩ :: ⟨dst, op, ty, ps, af, some (j, b)⟩ :: rest) ⟨n, T, H⟩ K := by
  refine Ops.un hj hb ?_
  unfold Ops at h ⊢
  obtain ⟨S', h1, h2⟩ := h
  refine ⟨S', ?_, h2⟩
  have hj' : ((all[j]?).bind fun x => x.dst) = some dj := hj
  cases h1 with
  | go hg he hr =>
    refine .go hg he ?_
    rename_i r H1
    have hb' : (if dj = d1 then r else T dj) = .bool b := by rw [if_neg (Ne.symm hne)]; exact hb
    cases hr with
    | go hg he hr => exact .go (by unfold gw; simp only [hj']; show (match (if dj = d1 then r else T dj) with | .bool b' => some (b' == b) | .tuple _ => some false | _ => none) = _; rw [hb']; simp) (stepF_guard he) hr
    | skip hg hr => cases hg
  | skip hg hr => cases hg

/-- The guard of the second one of two. -/
theorem Ops.unS {dst : Option Nat} {j dj : Nat} {b : Bool} (hj : (all[j]?).bind (·.dst) = some dj) (hb : T dj = .bool b) (hne : (d1 == dj) = false) (h : Ops P fl all (⟨some d1, op1, ty1, ps1, af1, none⟩ :: ⟨dst, op, ty, ps, af, none⟩ :: rest) ⟨n, T, H⟩ K) :
    Ops P fl all (⟨some d1, op1, ty1, ps1, af1, none⟩ :: ⟨dst, op, ty, ps, af, some (j, b)⟩ :: rest) ⟨n, T, H⟩ K := by
  have hne' : d1 ≠ dj := by simpa using hne
  unfold Ops at h ⊢
  obtain ⟨S', h1, h2⟩ := h
  refine ⟨S', ?_, h2⟩
  have hj' : ((all[j]?).bind fun x => x.dst) = some dj := hj
  cases h1 with
  | go hg he hr =>
    refine .go hg he ?_
    rename_i r H1
    have hb' : (if dj = d1 then r else T dj) = .bool b := by rw [if_neg (Ne.symm hne')]; exact hb
    cases hr with
    | go hg he hr => exact .go (by unfold gw; simp only [hj']; show (match (if dj = d1 then r else T dj) with | .bool b' => some (b' == b) | .tuple _ => some false | _ => none) = _; rw [hb']; simp) (stepF_guard he) hr
    | skip hg hr => cases hg
  | skip hg hr => cases hg

theorem Ops.pick_t (hc : rd T x = .bool true) (hy : rd T y = v) (k : Ops P fl all rest ⟨n, up T d v, H⟩ K) : Ops P fl all (⟨some d, .pick x y z, ty, ps, af, none⟩ :: rest) ⟨n, T, H⟩ K :=
  .go rfl (fun H => by have := aev_pick (P := P) (o := ⟨some d, .pick x y z, ty, ps, af, none⟩) (ρ := rd T) (H := H) rfl hc; rwa [if_pos rfl, hy] at this) k
theorem Ops.pick_f (hc : rd T x = .bool false) (hz : rd T z = v) (k : Ops P fl all rest ⟨n, up T d v, H⟩ K) : Ops P fl all (⟨some d, .pick x y z, ty, ps, af, none⟩ :: rest) ⟨n, T, H⟩ K :=
  .go rfl (fun H => by have := aev_pick (P := P) (o := ⟨some d, .pick x y z, ty, ps, af, none⟩) (ρ := rd T) (H := H) rfl hc; rwa [if_neg (by simp), hz] at this) k
theorem Ops.not_t {t : TypeId} (hx : rd T x = .bool true) (k : Ops P fl all rest ⟨n, up T d (.bool false), H⟩ K) : Ops P fl all (⟨some d, .unOp .not t x, ty, ps, af, none⟩ :: rest) ⟨n, T, H⟩ K := .go rfl (fun _ => aev_not rfl hx) k
theorem Ops.not_f {t : TypeId} (hx : rd T x = .bool false) (k : Ops P fl all rest ⟨n, up T d (.bool true), H⟩ K) : Ops P fl all (⟨some d, .unOp .not t x, ty, ps, af, none⟩ :: rest) ⟨n, T, H⟩ K := .go rfl (fun _ => aev_not rfl hx) k

/-- A call whose result is a truth value: both ways. -/
theorem Ops.callB {f : FuncId} {xs : Array Operand} {ts : Array TypeId} {b : Bool} (h : acall P f (xs.toList.map (rd T)) H (.bool b) H) (k1 : b = true → Ops P fl all rest ⟨n, up T d (.bool true), H⟩ K) (k2 : b = false → Ops P fl all rest ⟨n, up T d (.bool false), H⟩ K) :
    Ops P fl all (⟨some d, .call { callee := .value (.func f), args := xs, argTypes := ts }, ty, ps, af, none⟩ :: rest) ⟨n, T, H⟩ K := by
  cases b
  · exact .callE h (k2 rfl)
  · exact .callE h (k1 rfl)

theorem aev_max {ρ : Operand → Value} {o : Oper} {ts : Array TypeId} {a b : Int} {ki : IntKind} (ho : o.op = .call { callee := .builtin .max, args := #[x, y], argTypes := ts }) (hx : ρ x = .int ki a) (hy : ρ y = .int ki b) : aev P o ρ H (.int ki (if b > a then b else a)) H :=
  aev_pure fun β ac hxs => by
    have h1 := hxs x (by rw [ho]; simp [Op.operands, Call.operands])
    have h2 := hxs y (by rw [ho]; simp [Op.operands, Call.operands])
    rw [hx] at h1
    rw [hy] at h2
    have e1 := VR.still_eq rfl h1
    have e2 := VR.still_eq rfl h2
    exact ⟨_, .int _ _, fun w => by simp [execOp, ho, resolve, invoke, builtin, e1, e2, Builtin.max_, Builtin.max2]⟩

theorem Ops.max {ts : Array TypeId} {a b : Int} {ki : IntKind} (hx : rd T x = .int ki a) (hy : rd T y = .int ki b) (k : Ops P fl all rest ⟨n, up T d (.int ki (if b > a then b else a)), H⟩ K) :
    Ops P fl all (⟨some d, .call { callee := .builtin .max, args := #[x, y], argTypes := ts }, ty, ps, af, none⟩ :: rest) ⟨n, T, H⟩ K := .go rfl (fun _ => aev_max rfl hx hy) k

theorem aev_isnil {ρ : Operand → Value} {o : Oper} {t u : TypeId} {p : Option Addr} {q c' : Nat} (ho : o.op = .binOp .eql t x (.const (.slice none 0 0)) u) (hx : ρ x = .slice p q c') (ht : ∃ e, P.underlying t = some (.slice e)) : aev P o ρ H (.bool p.isNone) H :=
  aev_pure fun β ac hxs => by
    have h1 := hxs x (by rw [ho]; simp [Op.operands])
    rw [hx] at h1
    generalize he : ac.eval x = u at h1
    have h2 : ac.eval (.const (.slice none 0 0)) = .slice none 0 0 := rfl
    obtain ⟨e, ht⟩ := ht
    refine ⟨.bool p.isNone, .bool _, fun w => ?_⟩
    cases h1 <;> simp [execOp, ho, he, h2, eqGuard_at_slice, binOp, run_equal_slice_nil _ t e _ _ _ ht]

/-- x == nil -/
theorem Ops.isnil (c : Cd α) {t u : TypeId} {p : Option Addr} {q c' : Nat} (hx : rd T x = .slice p q c') (ht : slA P t c.sz = true) (k : Ops P fl all rest ⟨n, up T d (.bool p.isNone), H⟩ K) :
    Ops P fl all (⟨some d, .binOp .eql t x (.const (.slice none 0 0)) u, ty, ps, af, none⟩ :: rest) ⟨n, T, H⟩ K := .go rfl (fun _ => aev_isnil rfl hx (let ⟨_, _, h, _⟩ := slA_at ht; ⟨_, h⟩)) k

/-- []T{x} -/
theorem Ops.lit1 {t : TypeId} {a : α} (c : Cd α) (e k : Nat) (hy : c.ok H (cellsOf (rd T y)) a) (ht : slA P t c.sz = true) (he : P.elem t = e) (hk : k ≤ H.nxt) (hsz : c.sz ≤ 4096)
    (kk : ∀ v' H', Ac c e k H' v' [a] → Calm H H' → (∀ u, Live H u → Ap u v') → Ops P fl all rest ⟨n, up T d v', H'⟩ K) :
    Ops P fl all (⟨some d, .buildSlice t 1 #[(0, y)], ty, ps, af, none⟩ :: rest) ⟨n, T, H⟩ K := by
  subst he
  obtain ⟨i, z, h1, h2, h3, h4, h5, h6, h7⟩ := slA_at ht
  have hp := c.pos
  have hcl := c.len hy
  have hon := c.one hy
  have hop := (anew_lit (P := P) (o := ⟨some d, .buildSlice t 1 #[(0, y)], ty, ps, af, none⟩) (ρ := rd T) (xs := [y]) rfl rfl rfl h1 h2 h5 (by omega) (by omega) (by rw [h3]; omega) (fun w hw => by
      obtain rfl := List.mem_singleton.1 hw
      exact ⟨by rw [h3]; exact hcl, hon⟩))
  refine .make_ rfl hop ?_
  have e1 : ([y].map (rd T)).flatMap cellsOf = cellsOf (rd T y) := by simp
  rw [e1, h3]
  refine kk _ _ (Ac.fresh (cellsIn.sing hy) (by simp [maxLen]) hk) (Calm.new _ _) fun u hu i hi h => ?_
  have := hu i hi
  injection h with h
  have h' : H.nxt = i := h
  omega

theorem zrow_cut {zs : List Value} {q i : Nat} (hi : i < q) (h0 : 0 < zs.length) : cut (zrow zs q) (i * zs.length) zs.length = zs := by
  have hlen : i * zs.length + zs.length ≤ q * zs.length := mul_lt_of hi
  apply List.ext_getElem?
  intro j
  rcases Nat.lt_or_ge j zs.length with hj | hj
  · rw [cut_get hj]
    unfold zrow
    rw [List.getElem?_map, List.getElem?_range (by omega)]
    simp only [Option.map_some]
    rw [List.getD_eq_getElem?_getD, Nat.mul_comm, Nat.mul_add_mod, Nat.mod_eq_of_lt hj, List.getElem?_eq_getElem hj]
    rfl
  · rw [List.getElem?_eq_none (by unfold cut; rw [List.length_take]; omega), List.getElem?_eq_none (by omega)]

/-- make([]T, n) -/
theorem Ops.make {t : TypeId} (c : Cd α) (e k : Nat) {k1 k2 : IntKind} {q : Nat} {a : α} {z0 : Value} (hz : (P.info? (P.elem t)).bind (·.zero) = some z0) (ha : ∀ H, c.ok H (cellsOf z0) a) (hx : rd T x = .int k1 q) (hy : rd T y = .int k2 q) (ht : slA P t c.sz = true) (he : P.elem t = e) (hk : k ≤ H.nxt) (hq : q * c.sz ≤ 16777216) (hsz : q ≤ 16777216)
    (kk : ∀ v' H', Ac c e k H' v' (List.replicate q a) → Calm H H' → (∀ u, Live H u → Ap u v') → Ops P fl all rest ⟨n, up T d v', H'⟩ K) :
    Ops P fl all (⟨some d, .makeSlice t x y, ty, ps, af, none⟩ :: rest) ⟨n, T, H⟩ K := by
  subst he
  obtain ⟨i, z, h1, h2, h3, h4, h5, h6, h7⟩ := slA_at ht
  have hzz : z0 = z := by rw [h2] at hz; simp [h5] at hz; exact hz.symm
  subst hzz
  have hp := c.pos
  refine .make_ rfl (anew_make (n := q) rfl h1 h2 h5 (by rw [h3]; exact h6) h7 hx hy (by rw [h3]; exact hq) (by have := Nat.mul_le_mul h4 hsz; omega) (by simp only [maxLen]; omega) (by rw [h3]; exact hp)) ?_
  rw [h3]
  have hcells : cellsIn c H (zrow (cellsOf z0) q) (List.replicate q a) := by
    refine ⟨by rw [zrow_length, h6, List.length_replicate], fun j b hj => ?_⟩
    rw [List.getElem?_replicate] at hj
    split at hj
    · rename_i hlt
      cases hj
      have := zrow_cut (zs := cellsOf z0) hlt (by omega)
      rw [h6] at this
      rw [this]; exact ha H
    · cases hj
  have hac := Ac.fresh (e := P.elem t) (k := k) hcells (by simp only [List.length_replicate, maxLen]; omega) hk
  simp only [List.length_replicate] at hac
  refine kk _ _ hac (Calm.new _ _) fun u hu i hi h => ?_
  have := hu i hi
  injection h with h
  have h' : H.nxt = i := h
  omega

end

/-- Only rows of the root r have been written. -/
structure Mod (r : Nat) (H H' : Hp) : Prop where
  nxt : H'.nxt = H.nxt
  own : ∀ id, id < H.nxt → H'.own id = H.own id ∧ H'.root id = H.root id
  get : ∀ id, id < H.nxt → H.root id ≠ r → H'.get id = H.get id

/-- The slice's row is the call's own, of root r. -/
def Rt (H : Hp) (v : Value) (r : Nat) : Prop := ∃ id, idOf v = some id ∧ id < H.nxt ∧ H.own id = true ∧ H.root id = r

section
variable {α : Type} {c : Cd α} {H H' H'' H0 : Hp} {v u : Value} {l : List α} {e k r : Nat}

theorem Mod.refl : Mod r H H := ⟨rfl, fun _ _ => ⟨rfl, rfl⟩, fun _ _ _ => rfl⟩
theorem Mod.trans (h : Mod r H H') (h' : Mod r H' H'') : Mod r H H'' :=
  ⟨h'.nxt.trans h.nxt, fun id hi => by
    have hi' : id < H'.nxt := by rw [h.nxt]; exact hi
    exact ⟨(h'.own id hi').1.trans (h.own id hi).1, (h'.own id hi').2.trans (h.own id hi).2⟩, fun id hi hr => by
    have hi' : id < H'.nxt := by rw [h.nxt]; exact hi
    exact (h'.get id hi' (by rw [(h.own id hi).2]; exact hr)).trans (h.get id hi hr)⟩

theorem Mod.calm (h : Mod r H H') (hc : Calm H0 H) (hr : H0.nxt ≤ r) : Calm H0 H' :=
  ⟨by rw [h.nxt]; exact hc.1, fun id hi => by
    obtain ⟨e1, e2, e3⟩ := hc.2 id hi
    have hlt : id < H.nxt := Nat.lt_of_lt_of_le hi hc.1
    have := H.rt id hlt
    exact ⟨(h.get id hlt (by omega)).trans e1, (h.own id hlt).1.trans e2, (h.own id hlt).2.trans e3⟩⟩

theorem Mod.upd {id : Nat} {ob : Ob} (h : id < H.nxt) : Mod (H.root id) H (H.upd id ob h) := ⟨rfl, fun _ _ => ⟨rfl, rfl⟩, fun i hi hr => Hp.upd_root hr⟩

theorem Rt.mod (h : Rt H v r) {r' : Nat} (hm : Mod r' H H') : Rt H' v r := by
  obtain ⟨id, h1, h2, h3, h4⟩ := h
  exact ⟨id, h1, by rw [hm.nxt]; exact h2, (hm.own id h2).1.trans h3, (hm.own id h2).2.trans h4⟩
theorem Rt.calm (h : Rt H v r) (hm : Calm H H') : Rt H' v r := by
  obtain ⟨id, h1, h2, h3, h4⟩ := h
  exact ⟨id, h1, Nat.lt_of_lt_of_le h2 hm.1, (hm.2 id h2).2.1.trans h3, (hm.2 id h2).2.2.trans h4⟩

theorem Ac.rt (h : Ac c e k H v l) (hl : l ≠ []) : ∃ r, k ≤ r ∧ Rt H v r := by
  rcases h with ⟨_, h⟩ | ⟨id, ob, h1, h2, h3, h4, _⟩
  · exact absurd h hl
  · exact ⟨_, h4, id, by rw [h1]; rfl, Hp.lt h2, h3, rfl⟩

/-- A slice of the call's own is untouched by what is written in another one. -/
theorem Ac.mod (h : Ac c e k H u l) (hr : Rt H v r) (hp : Ap u v) (hm : Mod r H H') (hc : ∀ cs a, a ∈ l → c.ok H cs a → c.ok H' cs a) : Ac c e k H' u l := by
  rcases h with h | ⟨id, ob, h1, h2, h3, h4, h5, h6, h7, h8, h9⟩
  · exact .inl h
  · have hlt := Hp.lt h2
    obtain ⟨id', g1, g2, g3, g4⟩ := hr
    have hne : H.root id ≠ r := by
      intro he
      have := H.ou id id' hlt g2 h3 g3 (by rw [he, g4])
      subst this
      exact hp id (by rw [h1]; rfl) g1
    exact .inr ⟨id, ob, h1, (hm.get id hlt hne).trans h2, (hm.own id hlt).1.trans h3, by rw [(hm.own id hlt).2]; exact h4, h5, h6, h7, h8, fun i a hi => hc _ a (List.mem_of_getElem? hi) (h9 i a hi)⟩

end

section
variable {P : Program} {fl : Bool} {all : Array Oper} {rest : List Oper} {n : Nat} {T : Nat → Value} {H H' : Hp} {K : St → Prop} {d d1 d2 : Nat} {ty ty1 ty2 : TypeId} {ps ps1 ps2 : String} {af af1 af2 : Array Edge} {op op1 op2 : Op} {v : Value} {x y z : Operand} {α : Type} {c : Cd α} {l m : List α} {e k r : Nat}

theorem cut_splice_at {cs vs : List Value} {i s : Nat} (hs : vs.length = s) (h : i * s + s ≤ cs.length) : cut (splice cs (i * s) vs) (i * s) s = vs := by
  apply List.ext_getElem?
  intro j
  rcases Nat.lt_or_ge j s with hj | hj
  · rw [cut_get hj, splice_get (by omega), if_pos (by omega)]; congr 1; omega
  · rw [List.getElem?_eq_none (by unfold cut; rw [List.length_take]; omega), List.getElem?_eq_none (by omega)]

theorem cut_splice_ne {cs vs : List Value} {i q s : Nat} (hs : vs.length = s) (h : i * s + s ≤ cs.length) (hne : q ≠ i) : cut (splice cs (i * s) vs) (q * s) s = cut cs (q * s) s := by
  apply List.ext_getElem?
  intro j
  rcases Nat.lt_or_ge j s with hj | hj
  · rw [cut_get hj, cut_get hj, splice_get (by omega), if_neg]
    rintro ⟨h1, h2⟩
    rcases Nat.lt_or_gt_of_ne hne with h3 | h3
    · have := mul_lt_of (s := s) h3; omega
    · have := mul_lt_of (s := s) h3; omega
  · rw [List.getElem?_eq_none (by unfold cut; rw [List.length_take]; omega), List.getElem?_eq_none (by unfold cut; rw [List.length_take]; omega)]

/-- x[y] = z -/
theorem Ops.set {t te : TypeId} {ki : IntKind} {j : Int} {a : α} (hx : Ac c e k H (rd T x) l) (hr : Rt H (rd T x) r) (hy : rd T y = .int ki j) (h0 : 0 ≤ j) (hj : j.toNat < l.length) (hz : c.ok H (cellsOf (rd T z)) a) (hzd : z ≠ .tmp d1) (ht : slA P t c.sz = true) (hte : P.elem t = te)
    (hc : ∀ H', Mod r H H' → ∀ cs b, (b ∈ l ∨ b = a) → c.ok H cs b → c.ok H' cs b)
    (kk : ∀ p H', Mod r H H' → Ac c e k H' (rd T x) (l.set j.toNat a) → Ops P fl all rest ⟨n, up T d1 p, H'⟩ K) :
    Ops P fl all (⟨some d1, .indexAddr t x y, ty1, ps1, af1, none⟩ :: ⟨none, .store te (.tmp d1) z, ty2, ps2, af2, none⟩ :: rest) ⟨n, T, H⟩ K := by
  subst hte
  obtain ⟨i, z0, h1, h2, h3, h4, h5, h6, h7⟩ := slA_at ht
  rcases hx with ⟨_, h⟩ | ⟨id, ob, e1, e2, e3, e4, e5, e6, e7, e8, e9⟩
  · subst h; simp at hj
  · have hcl := c.len hz
    have hrz : rd (up T d1 (.pointer (some ⟨id, 0 + j.toNat * i.size, none⟩))) z = rd T z := by
      cases z with
      | tmp q => exact if_neg (fun e => hzd (by rw [e]))
      | _ => rfl
    have hroot : H.root id = r := by
      obtain ⟨id', g1, g2, g3, g4⟩ := hr
      rw [e1] at g1
      injection g1 with g1
      have g1' : id = id' := g1
      subst g1'; exact g4
    have hfit : j.toNat * c.sz + c.sz ≤ ob.cs.length := by rw [e8]; exact mul_lt_of hj
    have hlt := Hp.lt e2
    refine .go (v := .pointer (some ⟨id, 0 + j.toNat * i.size, none⟩)) rfl (fun _ => aev_indexAddr rfl h1 h2 e1 hy h0 (by omega)) ?_
    have hst := aev_store (P := P) (o := ⟨none, .store (P.elem t) (.tmp d1) z, ty2, ps2, af2, none⟩) (ρ := rd (up T d1 (.pointer (some ⟨id, 0 + j.toNat * i.size, none⟩)))) rfl h2 (by rw [hrz, h3]; exact hcl.symm) (by rw [hrz]; exact c.one hz) (by show (if d1 = d1 then _ else _) = _; rw [if_pos rfl]) e2 e3 (by rw [hrz, hcl, h3]; omega)
    rw [hrz, Nat.zero_add, h3] at hst
    rw [Nat.zero_add, h3]
    refine .write0 rfl hst (Nat.le_refl _) ?_
    have hm : Mod r H (H.upd id ⟨ob.e, ob.sz, splice ob.cs (j.toNat * c.sz) (cellsOf (rd T z))⟩ hlt) := by rw [← hroot]; exact Mod.upd hlt
    refine kk _ _ hm ?_
    refine .inr ⟨id, _, by rw [List.length_set]; exact e1, Hp.upd_get _ _ _ _, e3, e4, e5, e6, by rw [List.length_set]; exact e7, by rw [splice_length (by rw [hcl]; exact hfit), List.length_set]; exact e8, fun q b hq => ?_⟩
    rw [List.getElem?_set] at hq
    split at hq
    · rename_i heq
      subst heq
      cases hq
      rw [cut_splice_at hcl hfit]
      exact hc _ hm _ _ (.inr rfl) hz
    · rename_i hne
      rw [cut_splice_ne hcl hfit (fun h => hne h.symm)]
      exact hc _ hm _ _ (.inl (List.mem_of_getElem? hq)) (e9 q b hq)

end
end Go.Proofs.Ytefmjpbmdoebaaa
