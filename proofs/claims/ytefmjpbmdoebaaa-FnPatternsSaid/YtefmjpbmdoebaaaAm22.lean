/- The abstract machine, part 22: more of arithmetic, nil checks, struct literals; what touches one row alone. -/
import Derived.Test.YtefmjpbmdoebaaaAm21
set_option linter.unusedVariables false
set_option linter.unusedSimpArgs false
namespace Go.Proofs.Ytefmjpbmdoebaaa
open Go Go.RowKit

section
variable {P : Program} {o : Oper} {ρ : Operand → Value} {H : Hp} {x y : Operand} {k : IntKind} {a b : Int} {t u : TypeId}

theorem aev_ints {op : BinOp} {v : Value} (ho : o.op = .binOp op t x y u) {k' : IntKind} (hx : ρ x = .int k a) (hy : ρ y = .int k' b) (hst : Value.still v = true) (hr : ∀ w, (binOp op t (.int k a) (.int k' b)).run P w = .ok v w) : aev P o ρ H v H :=
  aev_pure fun β ac hxs => by
    have h1 := hxs x (by rw [ho]; simp [Op.operands])
    have h2 := hxs y (by rw [ho]; simp [Op.operands])
    rw [hx] at h1
    rw [hy] at h2
    have e1 := VR.still_eq rfl h1
    have e2 := VR.still_eq rfl h2
    exact ⟨v, VR.still hst, fun w => by simp [execOp, ho, e1, e2, eqGuard_at_int, hr w]⟩

theorem run_shr (w : World) {k' : IntKind} (h : 0 ≤ b) : (binOp .shr t (.int k a) (.int k' b)).run P w = .ok (.int k (a.fdiv (2 ^ min b.toNat k.bits))) w := by
  simp [binOp, Op.shift, show ¬ b < 0 by omega]
theorem run_rem (w : World) (h : b ≠ 0) : (binOp .rem t (.int k a) (.int k b)).run P w = .ok (.int k (a.tmod b)) w := by
  simp [binOp, Op.intDiv, h]
theorem run_quo (w : World) (h : b ≠ 0) : (binOp .quo t (.int k a) (.int k b)).run P w = .ok (.int k (k.wrap (a.tdiv b))) w := by
  simp [binOp, Op.intDiv, h]
theorem run_and (w : World) : (binOp .and t (.int k a) (.int k b)).run P w = .ok (.int k (bits .and k a b)) w := by
  simp [binOp, intBits_and]
theorem run_xor (w : World) : (binOp .xor t (.int k a) (.int k b)).run P w = .ok (.int k (bits .xor k a b)) w := by
  simp [binOp, intBits_xor]

theorem and_range {m : Int} (h0 : 0 ≤ m) (h1 : m ≤ 9223372036854775807) (a : Int) : 0 ≤ bits .and .i64 a m ∧ bits .and .i64 a m ≤ m := by
  have e : (BitVec.ofInt 64 m).toNat = m.toNat := by
    rw [BitVec.toNat_ofInt]
    have : m % (2 ^ 64 : Nat) = m := Int.emod_eq_of_lt h0 (by omega)
    rw [this]
  have h2 : (BitVec.ofInt 64 a &&& BitVec.ofInt 64 m).toNat ≤ m.toNat := by
    rw [BitVec.toNat_and, e]; exact Nat.and_le_right
  have h3 : bits .and .i64 a m = IntKind.i64.wrap ((BitVec.ofInt 64 a &&& BitVec.ofInt 64 m).toNat : Int) := rfl
  rw [h3, wrap_in (by omega) (by omega)]
  omega

end

section
variable {P : Program} {fl : Bool} {all : Array Oper} {rest : List Oper} {n : Nat} {T : Nat → Value} {H H' : Hp} {K : St → Prop} {d : Nat} {ty : TypeId} {ps : String} {af : Array Edge} {x y : Operand} {a b : Int} {t u : TypeId}

/-- x & m -/
theorem Ops.and (hx : rd T x = .int .i64 a) (hy : rd T y = .int .i64 b) (h0 : 0 ≤ b) (h1 : b ≤ 9223372036854775807) (kk : ∀ r : Int, 0 ≤ r → r ≤ b → Ops P fl all rest ⟨n, up T d (.int .i64 r), H⟩ K) : Ops P fl all (⟨some d, .binOp .and t x y u, ty, ps, af, none⟩ :: rest) ⟨n, T, H⟩ K :=
  .go rfl (fun _ => aev_ints rfl hx hy rfl fun w => run_and w) (kk _ (and_range h0 h1 a).1 (and_range h0 h1 a).2)
theorem Ops.xor (hx : rd T x = .int .i64 a) (hy : rd T y = .int .i64 b) (kk : ∀ r : Int, Ops P fl all rest ⟨n, up T d (.int .i64 r), H⟩ K) : Ops P fl all (⟨some d, .binOp .xor t x y u, ty, ps, af, none⟩ :: rest) ⟨n, T, H⟩ K :=
  .go rfl (fun _ => aev_ints rfl hx hy rfl fun w => run_xor w) (kk _)
theorem Ops.shr {k' : IntKind} (hx : rd T x = .int .i64 a) (hy : rd T y = .int k' b) (h0 : 0 ≤ b) (kk : ∀ r : Int, Ops P fl all rest ⟨n, up T d (.int .i64 r), H⟩ K) : Ops P fl all (⟨some d, .binOp .shr t x y u, ty, ps, af, none⟩ :: rest) ⟨n, T, H⟩ K :=
  .go rfl (fun _ => aev_ints rfl hx hy rfl fun w => run_shr w h0) (kk _)
/-- x + y, x * y, wrapped or not -/
theorem Ops.addA (hx : rd T x = .int .i64 a) (hy : rd T y = .int .i64 b) (kk : ∀ r : Int, Ops P fl all rest ⟨n, up T d (.int .i64 r), H⟩ K) : Ops P fl all (⟨some d, .binOp .add t x y u, ty, ps, af, none⟩ :: rest) ⟨n, T, H⟩ K :=
  .go rfl (fun _ => aev_bin rfl hx hy rfl) (kk _)
theorem Ops.mulA (hx : rd T x = .int .i64 a) (hy : rd T y = .int .i64 b) (kk : ∀ r : Int, Ops P fl all rest ⟨n, up T d (.int .i64 r), H⟩ K) : Ops P fl all (⟨some d, .binOp .mul t x y u, ty, ps, af, none⟩ :: rest) ⟨n, T, H⟩ K :=
  .go rfl (fun _ => aev_bin rfl hx hy rfl) (kk _)
/-- x % y -/
theorem Ops.rem (hx : rd T x = .int .i64 a) (hy : rd T y = .int .i64 b) (h0 : 0 ≤ a) (h1 : 0 < b) (kk : Ops P fl all rest ⟨n, up T d (.int .i64 (a % b)), H⟩ K) : Ops P fl all (⟨some d, .binOp .rem t x y u, ty, ps, af, none⟩ :: rest) ⟨n, T, H⟩ K :=
  .go rfl (fun _ => aev_ints rfl hx hy rfl fun w => run_rem w (by omega)) (by rw [Int.tmod_eq_emod_of_nonneg h0]; exact kk)
/-- x / y -/
theorem Ops.quo (hx : rd T x = .int .i64 a) (hy : rd T y = .int .i64 b) (h0 : 0 ≤ a) (h1 : 0 < b) (h2 : a ≤ 9223372036854775807) (kk : Ops P fl all rest ⟨n, up T d (.int .i64 (a / b)), H⟩ K) : Ops P fl all (⟨some d, .binOp .quo t x y u, ty, ps, af, none⟩ :: rest) ⟨n, T, H⟩ K :=
  .go rfl (fun _ => aev_ints rfl hx hy rfl fun w => run_quo w (by omega)) (by
    have e1 : a.tdiv b = a / b := Int.tdiv_eq_ediv_of_nonneg h0
    have e2 : 0 ≤ a / b := Int.ediv_nonneg h0 (by omega)
    have e3 : a / b ≤ a := Int.ediv_le_self b h0
    rw [e1, wrap_in (by omega) (by omega)]; exact kk)

theorem Ops.nilc {v : Value} (hx : rd T x = v) (hv : ∃ id off, v = .pointer (some ⟨id, off, none⟩)) (kk : Ops P fl all rest ⟨n, up T d v, H⟩ K) : Ops P fl all (⟨some d, .nilCheck x, ty, ps, af, none⟩ :: rest) ⟨n, T, H⟩ K := by
  obtain ⟨id, off, rfl⟩ := hv
  exact .go rfl (fun _ => aev_nilCheck rfl hx) kk

/-- Is the type one of whole numbers? -/
def intT (P : Program) (t : Nat) (k : IntKind) : Bool := match P.underlying t with | some (.int k') => k' == k | _ => false
theorem intT_at {t : Nat} {k : IntKind} (h : intT P t k = true) : P.underlying t = some (.int k) := by
  unfold intT at h
  split at h
  · rename_i k' hk; rw [hk]; simpa using h
  · cases h

/-- int(x), x a byte -/
theorem Ops.byteInt {t1 t2 : TypeId} (hx : rd T x = .int .u8 a) (h1 : intT P t1 .u8 = true) (h2 : intT P t2 .i64 = true) (h0 : 0 ≤ a) (h3 : a ≤ 255) (kk : Ops P fl all rest ⟨n, up T d (.int .i64 a), H⟩ K) : Ops P fl all (⟨some d, .convert t1 t2 x, ty, ps, af, none⟩ :: rest) ⟨n, T, H⟩ K :=
  .go rfl (fun H => by have := aev_convert (P := P) (o := ⟨some d, .convert t1 t2 x, ty, ps, af, none⟩) (ρ := rd T) (H := H) rfl (intT_at h1) (intT_at h2) hx; rw [wrap_in (by omega) (by omega)] at this; exact this) kk

/-- A struct literal. -/
def bldT (P : Program) (t : Nat) : Option (List (Nat × Nat) × List Value) :=
  match P.underlying t, P.info? t with
  | some (.struct fs), some it => match it.zero, fs.toList.mapM (fun f => (P.info? f.type).map fun i => (f.offset, i.size)) with
    | some z, some pl => if (cellsOf z).all Value.still then some (pl, cellsOf z) else none
    | _, _ => none
  | _, _ => none

theorem Ops.build {parts : Array (Nat × Operand)} {pl : List (Nat × Nat)} {zs cs : List Value} (ht : bldT P t = some (pl, zs)) (hk : ∀ p ∈ parts.toList, Value.known (rd T p.2) = true) (hb : bld pl zs (parts.toList.map fun p => (p.1, rd T p.2)) = some cs) (kk : Ops P fl all rest ⟨n, up T d (.agg cs.toArray), H⟩ K) :
    Ops P fl all (⟨some d, .build t parts, ty, ps, af, none⟩ :: rest) ⟨n, T, H⟩ K := by
  unfold bldT at ht
  split at ht
  · rename_i fs it h1 h2
    split at ht
    · rename_i z pl' h3 h4
      split at ht
      · rename_i h5
        cases ht
        exact .go rfl (fun _ => aev_build rfl h1 h2 h3 h4 h5 hk hb) kk
      · cases ht
    · cases ht
  · cases ht

end

theorem cellsIn_ints (H : Hp) (as : List Int) : cellsIn cI H (as.map (Value.int .i64)) as := by
  refine ⟨by show (as.map _).length = as.length * 1; simp, fun i a hi => ?_⟩
  show cut (as.map (Value.int .i64)) (i * 1) 1 = [Value.int .i64 a]
  have h1 : (as.map (Value.int .i64))[i]? = some (Value.int .i64 a) := by rw [List.getElem?_map, hi]; rfl
  obtain ⟨h2, h3⟩ := List.getElem?_eq_some_iff.1 h1
  unfold cut
  rw [Nat.mul_one, List.drop_eq_getElem_cons h2, h3]
  rfl

/-- A list of whole numbers, written out. -/
theorem Ops.lits {P : Program} {fl : Bool} {all : Array Oper} {rest : List Oper} {n : Nat} {T : Nat → Value} {H : Hp} {K : St → Prop} {d : Nat} {ty : TypeId} {ps : String} {af : Array Edge} (as : List Int) (e k : Nat) {t : TypeId} {len : Nat} {parts : Array (Nat × Operand)} (hp : parts.toList = ((as.map fun a => Operand.const (.int .i64 a)).zipIdx 0).map fun x => (x.2, x.1)) (hlen : len = as.length) (h0 : 0 < len) (h1 : len ≤ 4096) (ht : slA P t 1 = true) (he : P.elem t = e) (hk : k ≤ H.nxt)
    (kk : ∀ v' H', Ac cI e k H' v' as → Calm H H' → (∀ u, Live H u → Ap u v') → Ops P fl all rest ⟨n, up T d v', H'⟩ K) :
    Ops P fl all (⟨some d, .buildSlice t len parts, ty, ps, af, none⟩ :: rest) ⟨n, T, H⟩ K := by
  subst he
  obtain ⟨i, z, g1, g2, g3, g4, g5, g6, g7⟩ := slA_at ht
  have hop := (anew_lit (P := P) (o := ⟨some d, .buildSlice t len parts, ty, ps, af, none⟩) (ρ := rd T) (xs := as.map fun a => Operand.const (.int .i64 a)) rfl hp (by simpa using hlen) g1 g2 g5 (by omega) h0 (by rw [g3]; omega) (fun w hw => by
      obtain ⟨a, _, rfl⟩ := List.mem_map.1 hw
      exact ⟨by rw [g3]; rfl, rfl⟩))
  refine .make_ rfl hop ?_
  have e1 : ((as.map fun a => Operand.const (.int .i64 a)).map (rd T)).flatMap cellsOf = as.map (Value.int .i64) := by
    clear hp hlen hop kk
    induction as with
    | nil => rfl
    | cons a t ih => simp only [List.map_cons, List.flatMap_cons]; rw [ih]; rfl
  rw [e1, g3, hlen]
  refine kk _ _ (Ac.fresh (c := cI) (cellsIn_ints H as) (by simp only [maxLen]; omega) hk) (Calm.new _ _) fun u hu i hi h => ?_
  have := hu i hi
  injection h with h
  have h' : H.nxt = i := h
  omega

/-- Nothing that is old has been changed but rows of c's root. -/
structure Touch (c : Value) (H H' : Hp) : Prop where
  nxt : H.nxt ≤ H'.nxt
  own : ∀ id, id < H.nxt → H'.own id = H.own id ∧ H'.root id = H.root id
  get : ∀ id, id < H.nxt → (∀ f, idOf c = some f → H.root id ≠ H.root f) → H'.get id = H.get id

section
variable {c u v : Value} {H H' H'' H0 : Hp} {k e : Nat} {l : List Int}

theorem Touch.refl : Touch c H H := ⟨Nat.le_refl _, fun _ _ => ⟨rfl, rfl⟩, fun _ _ _ => rfl⟩
theorem Touch.of_calm (h : Calm H H') : Touch c H H' := ⟨h.1, fun id hi => (h.2 id hi).2, fun id hi _ => (h.2 id hi).1⟩
theorem Touch.trans (hl : Live H c) (h : Touch c H H') (h' : Touch c H' H'') : Touch c H H'' :=
  ⟨Nat.le_trans h.nxt h'.nxt, fun id hi => by
    have hi' := Nat.lt_of_lt_of_le hi h.nxt
    exact ⟨(h'.own id hi').1.trans (h.own id hi).1, (h'.own id hi').2.trans (h.own id hi).2⟩, fun id hi hr => by
    have hi' := Nat.lt_of_lt_of_le hi h.nxt
    refine (h'.get id hi' fun f hf => ?_).trans (h.get id hi hr)
    rw [(h.own id hi).2, (h.own f (hl f hf)).2]; exact hr f hf⟩
theorem Touch.of_mod {r : Nat} (h : Mod r H H') (hr : Rt H c r) : Touch c H H' := ⟨Nat.le_of_eq h.nxt.symm, h.own, fun id hi hn => h.get id hi (by
  obtain ⟨f, h1, h2, h3, h4⟩ := hr
  rw [← h4]; exact hn f h1)⟩
theorem Touch.calm (h : Touch c H H') (hc : Calm H0 H) (hr : ∀ f, idOf c = some f → H0.nxt ≤ H.root f) : Calm H0 H' := ⟨Nat.le_trans hc.1 h.nxt, fun id hi => by
  obtain ⟨e1, e2, e3⟩ := hc.2 id hi
  have hlt := Nat.lt_of_lt_of_le hi hc.1
  have := H.rt id hlt
  exact ⟨(h.get id hlt fun f hf => by have := hr f hf; omega).trans e1, (h.own id hlt).1.trans e2, (h.own id hlt).2.trans e3⟩⟩
theorem Touch.live (h : Touch c H H') (hl : Live H v) : Live H' v := fun i hi => Nat.lt_of_lt_of_le (hl i hi) h.nxt
theorem Touch.ac {kc : Nat} {cs : List Value} (h : Touch c H H') (hc : Po kc H c cs) (ha : Ac cI e k H v l) (hp : Ap v c) : Ac cI e k H' v l := by
  rcases ha with ha | ⟨id, ob, h1, h2, h3, h4, h5, h6, h7, h8, h9⟩
  · exact .inl ha
  · have hlt := Hp.lt h2
    obtain ⟨idc, obc, g1, g2, g3, g4, g5⟩ := hc
    have hget : H'.get id = some ob := (h.get id hlt fun f hf e => by
      rw [g1] at hf
      injection hf with hf
      have hf' : idc = f := hf
      subst hf'
      have := H.ou id idc hlt (Hp.lt g2) h3 g4 e
      subst this
      exact hp id (by rw [h1]; rfl) (by rw [g1]; rfl)).trans h2
    exact .inr ⟨id, ob, h1, hget, (h.own id hlt).1.trans h3, by rw [(h.own id hlt).2]; exact h4, h5, h6, h7, h8, h9⟩

end
end Go.Proofs.Ytefmjpbmdoebaaa
