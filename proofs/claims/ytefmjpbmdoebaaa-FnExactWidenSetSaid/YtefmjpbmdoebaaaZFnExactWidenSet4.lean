/- Part 4 of the proof of a law; no condition. The last part has the theorem. -/
import Derived.Test.YtefmjpbmdoebaaaZFnExactWidenSet3
import Derived.Sort.AssemblyPlain

/- The abstract machine, part 24: rows that are sorted in place. -/
set_option linter.unusedVariables false
set_option linter.unusedSimpArgs false
namespace Go.Proofs.Ytefmjpbmdoebaaa
open Go Go.RowKit

/-- What elements are like that a store into the row with root r leaves alone. -/
structure El {α : Type} (c : Cd α) where
  E : Hp → Nat → α → Prop
  mod : ∀ {H H' : Hp} {r : Nat} {a : α} {cs : List Value}, E H r a → Mod r H H' → c.ok H cs a → c.ok H' cs a
  emod : ∀ {H H' : Hp} {r q : Nat} {a : α}, E H r a → Mod q H H' → E H' r a
  fresh : ∀ {H H' : Hp} {r q : Nat} {a : α}, E H r a → Calm H H' → H.nxt ≤ q → E H' q a
  ecalm : ∀ {H H' : Hp} {r : Nat} {a : α}, E H r a → Calm H H' → E H' r a

def elI : El cI := ⟨fun _ _ _ => True, fun _ _ h => h, fun _ _ => trivial, fun _ _ _ => trivial, fun _ _ => trivial⟩

theorem H_rt_lt {H H' : Hp} {f : Nat} (h : f < H.nxt) (hc : Calm H H') : H'.root f < H.nxt := by
  rw [(hc.2 f h).2.2]
  have := H.rt f h
  omega

/-- Rows that own themselves, and are not of the root r. -/
def elF (e : Nat) : El (cF cI e) where
  E := fun H r a => Own 0 H a.2 ∧ ∀ f ∈ a.2, H.root f ≠ r
  mod := by
    rintro H H' r ⟨l, F⟩ cs ⟨h1, h2⟩ hm ⟨z, hz, hw⟩
    refine ⟨z, hz, ?_⟩
    rcases hw.2 with ⟨g1, g1'⟩ | ⟨id, ob, hl, g2, g3, g4, g5, g6⟩
    · refine ⟨?_, .inl ⟨g1, g1'⟩⟩
      dsimp only at g1 hw ⊢
      subst g1
      obtain ⟨p, hp⟩ := hw.1.val
      have hlv := hw.1.live
      exact .inl ⟨rfl, p, hp, fun a ha hs => by obtain ⟨b, o, s⟩ := a; dsimp only at hs; subst hs ha hp; rw [hm.nxt]; exact hlv _ rfl⟩
    · have hlt := Hp.lt g4
      dsimp only at g2 h1 h2
      subst g2
      have hget : H'.get id = some ob := (hm.get id hlt (h2 id (by simp))).trans g4
      refine ⟨?_, .inr ⟨id, ob, hl, rfl, g3, hget, g5, g6⟩⟩
      rcases hw.1 with ⟨h, _⟩ | ⟨id', off, ob', e1, e2, e3, e4, e5⟩
      · exact absurd h hl
      · rw [g3] at e1; cases e1
        rw [g4] at e2; cases e2
        exact .inr ⟨id, 0, ob, g3, hget, e3, e4, fun i a hi => e5 i a hi⟩
  emod := fun ⟨h1, h2⟩ hm => ⟨h1.mod hm, fun f hf => by rw [(hm.own f (h1 f hf).1).2]; exact h2 f hf⟩
  fresh := fun ⟨h1, h2⟩ hc hq => ⟨h1.calm hc, fun f hf => by
    have := H_rt_lt (h1 f hf).1 hc
    omega⟩
  ecalm := fun ⟨h1, h2⟩ hc => ⟨h1.calm hc, fun f hf => by rw [(hc.2 f (h1 f hf).1).2.2]; exact h2 f hf⟩

/-- A row of the call's own that is sorted. -/
structure SR {α : Type} {c : Cd α} (w : El c) (e k r : Nat) (H : Hp) (v : Value) (d : Array α) : Prop where
  ac : Ac c e k H v d.toList
  rt : 0 < d.size → Rt H v r ∧ k ≤ r
  el : ∀ a ∈ d.toList, w.E H r a

/-- Nothing that is old has been changed but rows of the root r. -/
structure Tr (r : Nat) (H H' : Hp) : Prop where
  nxt : H.nxt ≤ H'.nxt
  own : ∀ id, id < H.nxt → H'.own id = H.own id ∧ H'.root id = H.root id
  get : ∀ id, id < H.nxt → H.root id ≠ r → H'.get id = H.get id

section
variable {α : Type} {c : Cd α} {w : El c} {e k r : Nat} {H H' H'' H0 : Hp} {v : Value} {d : Array α}

theorem Tr.refl : Tr r H H := ⟨Nat.le_refl _, fun _ _ => ⟨rfl, rfl⟩, fun _ _ _ => rfl⟩
theorem Tr.of_calm (h : Calm H H') : Tr r H H' := ⟨h.1, fun id hi => (h.2 id hi).2, fun id hi _ => (h.2 id hi).1⟩
theorem Tr.of_mod (h : Mod r H H') : Tr r H H' := ⟨Nat.le_of_eq h.nxt.symm, h.own, h.get⟩
theorem Tr.trans (h : Tr r H H') (h' : Tr r H' H'') : Tr r H H'' :=
  ⟨Nat.le_trans h.nxt h'.nxt, fun id hi => by
    have hi' := Nat.lt_of_lt_of_le hi h.nxt
    exact ⟨(h'.own id hi').1.trans (h.own id hi).1, (h'.own id hi').2.trans (h.own id hi).2⟩, fun id hi hr => by
    have hi' := Nat.lt_of_lt_of_le hi h.nxt
    exact (h'.get id hi' (by rw [(h.own id hi).2]; exact hr)).trans (h.get id hi hr)⟩
theorem Tr.calm (h : Tr r H H') (hc : Calm H0 H) (hr : H0.nxt ≤ r) : Calm H0 H' := ⟨Nat.le_trans hc.1 h.nxt, fun id hi => by
  obtain ⟨e1, e2, e3⟩ := hc.2 id hi
  have hlt := Nat.lt_of_lt_of_le hi hc.1
  have := H.rt id hlt
  exact ⟨(h.get id hlt (by omega)).trans e1, (h.own id hlt).1.trans e2, (h.own id hlt).2.trans e3⟩⟩

theorem SR.calm (h : SR w e k r H v d) (hc : Calm H H') : SR w e k r H' v d := ⟨h.ac.calm hc, fun hd => ⟨(h.rt hd).1.calm hc, (h.rt hd).2⟩, fun a ha => w.ecalm (h.el a ha) hc⟩

/-- Another variable has been written. -/
theorem SR.modP {p : Value} {rp : Nat} (h : SR w e k r H v d) (hp : Rt H p rp) (hap : Ap v p) (hel : ∀ a ∈ d.toList, w.E H rp a) (hm : Mod rp H H') : SR w e k r H' v d :=
  ⟨h.ac.mod hp hap hm (fun cs a ha hok => w.mod (hel a ha) hm hok), fun hd => ⟨(h.rt hd).1.mod hm, (h.rt hd).2⟩, fun a ha => w.emod (h.el a ha) hm⟩
theorem Tr.modP {rp : Nat} (h : Tr r H H') (hm : Mod rp H' H'') (hr : H.nxt ≤ rp) : Tr r H H'' :=
  ⟨by rw [hm.nxt]; exact h.nxt, fun id hi => by
    have hi' := Nat.lt_of_lt_of_le hi h.nxt
    exact ⟨(hm.own id hi').1.trans (h.own id hi).1, (hm.own id hi').2.trans (h.own id hi).2⟩, fun id hi hr' => by
    have hi' := Nat.lt_of_lt_of_le hi h.nxt
    have h1 := (h.own id hi).2
    have h2 := H.rt id hi
    exact (hm.get id hi' (by omega)).trans (h.get id hi hr')⟩

theorem arr_at! [Inhabited α] {d : Array α} {i : Nat} {a : α} (h : d.toList[i]? = some a) : d[i]! = a := by
  have : d[i]? = some a := by simpa using h
  rw [getElem!_def, this]

theorem swp_toList [Inhabited α] (d : Array α) (i j : Nat) : (Go.Sort.swp d i j).toList = (d.toList.set i d[j]!).set j d[i]! := by
  unfold Go.Sort.swp
  rw [Array.toList_setIfInBounds, Array.toList_setIfInBounds]

end

section
variable {P : Program} {fl : Bool} {all : Array Oper} {rest : List Oper} {n : Nat} {T : Nat → Value} {H H' : Hp} {K : St → Prop} {d1 d2 : Nat} {ty1 ty2 ty3 ty4 : TypeId} {ps1 ps2 ps3 ps4 : String} {af1 af2 af3 af4 : Array Edge} {v : Value} {x y x1 y1 z1 x2 y2 z2 : Operand} {α : Type} [Inhabited α] {c : Cd α} {w : El c} {e k r : Nat} {d : Array α} {t te : TypeId}

/-- An element of the row, read. -/
theorem Ops.rdS {ki : IntKind} {z : Int} (j : Nat) (h : SR w e k r H v d) (hx : rd T x = v) (hs : c.sz = 1) (hy : rd T y = .int ki z) (hz : z = j) (hj : j < d.size) (ht : slA P t 1 = true) (hte : agT P te false = true)
    (kk : ∀ p u, c.ok H [u] d[j]! → cellsOf u = [u] → Ops P fl all rest ⟨n, up (up T d1 p) d2 u, H⟩ K) :
    Ops P fl all (⟨some d1, .indexAddr t x y, ty1, ps1, af1, none⟩ :: ⟨some d2, .load te (.tmp d1), ty2, ps2, af2, none⟩ :: rest) ⟨n, T, H⟩ K := by
  subst hx hz
  refine Ops.idx h.ac.sl hs hy (by omega) (by simpa using hj) ht hte fun p u a ha hok => ?_
  have : a = d[j]! := (arr_at! (by simpa using ha)).symm
  subst this
  refine kk p u hok ?_
  have := c.one hok
  simp only [List.all_cons, List.all_nil, Bool.and_true] at this
  cases u <;> first | rfl | (simp [Value.one] at this; done)

theorem Ops.swM {ki kj : IntKind} {zi zj : Int} (i j : Nat) {u1 u2 : Value} (h : SR w e k r H v d) (hx1 : rd T x1 = v) (hx2 : rd T x2 = v) (hs : c.sz = 1) (hy1 : rd T y1 = .int ki zi) (hzi : zi = i) (hy2 : rd T y2 = .int kj zj) (hzj : zj = j) (hi : i < d.size) (hj : j < d.size)
    (hz1 : rd T z1 = u1) (hz2 : rd T z2 = u2) (ok1 : c.ok H [u1] d[j]!) (ok2 : c.ok H [u2] d[i]!) (c1 : cellsOf u1 = [u1]) (c2 : cellsOf u2 = [u2]) (n1 : z1 ≠ .tmp d1) (n2 : x2 ≠ .tmp d1) (n3 : y2 ≠ .tmp d1) (n4 : z2 ≠ .tmp d1) (n5 : z2 ≠ .tmp d2) (ht : slA P t 1 = true) (hte : P.elem t = te) (he : P.elem t = e)
    (kk : ∀ p q H', SR w e k r H' v (Go.Sort.swp d i j) → Mod r H H' → Ops P fl all rest ⟨n, up (up T d1 p) d2 q, H'⟩ K) :
    Ops P fl all (⟨some d1, .indexAddr t x1 y1, ty1, ps1, af1, none⟩ :: ⟨none, .store te (.tmp d1) z1, ty2, ps2, af2, none⟩ :: ⟨some d2, .indexAddr t x2 y2, ty3, ps3, af3, none⟩ :: ⟨none, .store te (.tmp d2) z2, ty4, ps4, af4, none⟩ :: rest) ⟨n, T, H⟩ K := by
  subst hx1 hzi hzj
  obtain ⟨rt, hkr⟩ := h.rt (by omega)
  have hmem : ∀ q, q < d.size → d[q]! ∈ d.toList := fun q hq => by rw [getElem!_pos d q hq]; simp
  refine Ops.set (a := d[j]!) h.ac rt hy1 (by omega) (by simpa using hi) (by rw [hz1, c1]; exact ok1) n1 (by rw [hs]; exact ht) hte (fun H' hm cs b hb hok => w.mod (h.el b (by rcases hb with hb | hb; exact hb; subst hb; exact hmem j hj)) hm hok) fun p H1 m1 a1 => ?_
  have keep : ∀ z, z ≠ .tmp d1 → rd (up T d1 p) z = rd T z := fun z hz => by
    cases z with
    | tmp q => exact if_neg (fun e => hz (by rw [e]))
    | _ => rfl
  have hx2' : rd (up T d1 p) x2 = rd T x1 := (keep x2 n2).trans hx2
  have hel1 : ∀ a ∈ d.toList, w.E H1 r a := fun a ha => w.emod (h.el a ha) m1
  rw [← hx2'] at a1
  refine Ops.set (a := d[i]!) a1 (by rw [hx2']; exact rt.mod m1) ((keep y2 n3).trans hy2) (by omega) (by rw [List.length_set]; simpa using hj) (by rw [keep z2 n4, hz2, c2]; exact w.mod (h.el _ (hmem i hi)) m1 ok2) n5 (by rw [hs]; exact ht) hte (fun H' hm cs b hb hok => ?_) fun q H2 m2 a2 => ?_
  · refine w.mod (hel1 b ?_) hm hok
    rcases hb with hb | hb
    · rcases List.mem_or_eq_of_mem_set hb with hb | hb
      · exact hb
      · subst hb; exact hmem j hj
    · subst hb; exact hmem i hi
  · rw [hx2'] at a2
    have e1 : ((d.toList.set (i : Int).toNat d[j]!).set (j : Int).toNat d[i]!) = (Go.Sort.swp d i j).toList := by rw [swp_toList]; rfl
    rw [e1] at a2
    refine kk p q H2 ⟨a2, fun _ => ⟨(rt.mod m1).mod m2, hkr⟩, fun a ha => ?_⟩ (m1.trans m2)
    refine w.emod (hel1 a ?_) m2
    rw [swp_toList] at ha
    rcases List.mem_or_eq_of_mem_set ha with ha | ha
    · rcases List.mem_or_eq_of_mem_set ha with ha | ha
      · exact ha
      · subst ha; exact hmem j hj
    · subst ha; exact hmem i hi

/-- Two elements of the row, exchanged. -/
theorem Ops.swS {ki kj : IntKind} {zi zj : Int} (i j : Nat) {u1 u2 : Value} (h : SR w e k r H v d) (hx1 : rd T x1 = v) (hx2 : rd T x2 = v) (hs : c.sz = 1) (hy1 : rd T y1 = .int ki zi) (hzi : zi = i) (hy2 : rd T y2 = .int kj zj) (hzj : zj = j) (hi : i < d.size) (hj : j < d.size)
    (hz1 : rd T z1 = u1) (hz2 : rd T z2 = u2) (ok1 : c.ok H [u1] d[j]!) (ok2 : c.ok H [u2] d[i]!) (c1 : cellsOf u1 = [u1]) (c2 : cellsOf u2 = [u2]) (n1 : z1 ≠ .tmp d1) (n2 : x2 ≠ .tmp d1) (n3 : y2 ≠ .tmp d1) (n4 : z2 ≠ .tmp d1) (n5 : z2 ≠ .tmp d2) (ht : slA P t 1 = true) (hte : P.elem t = te) (he : P.elem t = e)
    (kk : ∀ p q H', SR w e k r H' v (Go.Sort.swp d i j) → Tr r H H' → Ops P fl all rest ⟨n, up (up T d1 p) d2 q, H'⟩ K) :
    Ops P fl all (⟨some d1, .indexAddr t x1 y1, ty1, ps1, af1, none⟩ :: ⟨none, .store te (.tmp d1) z1, ty2, ps2, af2, none⟩ :: ⟨some d2, .indexAddr t x2 y2, ty3, ps3, af3, none⟩ :: ⟨none, .store te (.tmp d2) z2, ty4, ps4, af4, none⟩ :: rest) ⟨n, T, H⟩ K :=
  Ops.swM i j h hx1 hx2 hs hy1 hzi hy2 hzj hi hj hz1 hz2 ok1 ok2 c1 c2 n1 n2 n3 n4 n5 ht hte he fun p q H' h1 h2 => kk p q H' h1 (Tr.of_mod h2)

/-- A call of a function value that only reads. -/
theorem Ops.callVE {f : Operand} {g : FuncId} {first caps : Array Value} {xs : Array Operand} {ts : Array TypeId} {res : Value} {ty : TypeId} {ps : String} {af : Array Edge} {d0 : Nat} (hf : rd T f = .func (.func g) first caps) (h : acall P g (first.toList ++ xs.toList.map (rd T) ++ caps.toList) H res H)
    (k0 : Ops P fl all rest ⟨n, up T d0 res, H⟩ K) :
    Ops P fl all (⟨some d0, .call { callee := .value f, args := xs, argTypes := ts }, ty, ps, af, none⟩ :: rest) ⟨n, T, H⟩ K :=
  .chain rfl (aev_call rfl hf h) (fun _ => GE.refl' H) k0


/-- Less, by a comparison. -/
def ltc {α : Type} (cf : α → α → Int) (a b : α) : Bool := decide (cf a b < 0)

end

/-- Several ways come together: what is known then. -/
def jn {β : Type} (n : Nat) (TJ : β → Nat → Value) (HJ : β → Hp) (IJ : β → Prop) (K : Exit → St → Prop) : Exit → St → Prop
  | .normal, S => ∃ b, S.n = n ∧ S.H = HJ b ∧ Wk n S.T (TJ b) ∧ IJ b
  | e, S => K e S

theorem Run.join {P : Program} {x y : Code} {n : Nat} {T : Nat → Value} {H : Hp} {K : Exit → St → Prop} {β : Type} (TJ : β → Nat → Value) (HJ : β → Hp) (IJ : β → Prop) (h : Run P x ⟨n, T, H⟩ (jn n TJ HJ IJ K)) (hk : ∀ b, IJ b → Run P y ⟨n, TJ b, HJ b⟩ K) : Run P x ⟨n, T, H⟩ (thn P y K) := by
  refine h.mono fun e S hS => ?_
  cases e with
  | normal =>
    obtain ⟨b, h1, h2, h3, h4⟩ := hS
    obtain ⟨n', T', H'⟩ := S
    dsimp only at h1 h2 h3
    subst h1 h2
    exact (hk b h4).wk _ h3
  | _ => exact hS

theorem Run.joinB {P : Program} {x y : Code} {i n : Nat} {T : Nat → Value} {H : Hp} {K : Exit → St → Prop} {β : Type} (TJ : β → Nat → Value) (HJ : β → Hp) (IJ : β → Prop) (h : Run P x ⟨n, T, H⟩ (blk i (jn n TJ HJ IJ K))) (hk : ∀ b, IJ b → Run P y ⟨n, TJ b, HJ b⟩ K) : Run P x ⟨n, T, H⟩ (blk i (thn P y K)) := by
  have key : ∀ S, jn n TJ HJ IJ K .normal S → thn P y K .normal S := by
    rintro ⟨n', T', H'⟩ ⟨b, h1, h2, h3, h4⟩
    dsimp only at h1 h2 h3
    subst h1 h2
    exact (hk b h4).wk _ h3
  refine h.mono fun e S hS => ?_
  cases e with
  | normal => exact key S hS
  | exit j =>
    change (if j = i then _ else _) at hS
    show (if j = i then _ else _)
    by_cases hj : j = i
    · rw [if_pos hj] at hS ⊢; exact key S hS
    · rw [if_neg hj] at hS ⊢; exact hS
  | _ => exact hS

end Go.Proofs.Ytefmjpbmdoebaaa

/- Sorting rows of rows: insertion, reversing. -/
set_option linter.unusedVariables false
namespace Go.Proofs.Ytefmjpbmdoebaaa
open Go Go.RowKit Go.Sort

abbrev LF := List Int × List Nat

section
variable {g : FuncId} {cf : LF → LF → Int} (hcmp : ∀ (H : Hp) (u1 u2 : Value) (a b : LF), (cF cI 3).ok H [u1] a → (cF cI 3).ok H [u2] b → acall Try.prog g [u1, u2] H (.int .i64 (cf a b)) H)
  {H : Hp} {v : Value} {d : Array LF} {k r a b : Nat}

theorem insInner_succ (lt : LF → LF → Bool) (a j : Nat) (d : Array LF) : insInner lt a (j + 1) d = if j + 1 > a && lt d[j + 1]! d[j]! then insInner lt a j (swp d (j + 1) j) else d := rfl
theorem insOuter_go {lt : LF → LF → Bool} {a b i : Nat} {d : Array LF} (h : i < b) : insOuter lt a b i d = insOuter lt a b (i + 1) (insInner lt a i d) := by rw [insOuter, if_pos h]
theorem insOuter_end {lt : LF → LF → Bool} {a b i : Nat} {d : Array LF} (h : ¬ i < b) : insOuter lt a b i d = d := by rw [insOuter, if_neg h]

include hcmp
theorem insertionSort_ok (h : SR (elF 3) 24 k r H v d) (hb : b ≤ d.size) (ha : a ≤ b) (hn : d.size ≤ 1099511627776) :
    CallK Try.prog 110 [v, .int .i64 a, .int .i64 b, .func (.func g) #[] #[]] H (fun _ H' => SR (elF 3) 24 k r H' v (insertionSort (ltc cf) d a b) ∧ Tr r H H') := by
  refine (CallK.enter Try.func110 rfl rfl Try.ntmps110 Try.results110 rfl ?_)
  repeat' (first|refine wA ?_|refine wB ?_|refine wH ?_|refine wI ?_|refine wJ ?_|refine wC ?_|refine wD ?_|refine wE ?_|refine wF ?_|refine wG ?_|refine wK ?_|refine wL ?_|refine wM ?_|refine wN ?_|refine wO ?_|refine wP ?_|refine wQ ?_|refine wR ?_|refine wS ?_|refine wT ?_|refine wU ?_|refine wV ?_|refine wW ?_|refine wX ?_)
  refine Run.loopW (fun (x : Nat × Hp × Array LF) => b - x.1) (fun x => up (up (up (up (up jk 0 v) 1 (.int .i64 a)) 2 (.int .i64 b)) 3 (.func (.func g) #[] #[])) 8 (.int .i64 (x.1 : Int))) (fun x => x.2.1)
    (fun x => a < x.1 ∧ SR (elF 3) 24 k r x.2.1 v x.2.2 ∧ Tr r H x.2.1 ∧ x.2.2.size = d.size ∧ insOuter (ltc cf) a b x.1 x.2.2 = insertionSort (ltc cf) d a b) (a + 1, H, d) rfl (by repeat (first | exact Wk.jk | refine Wk.up rfl ?_)) ⟨by dsimp only; omega, h, Tr.refl, rfl, rfl⟩ ?_
  rintro ⟨i, H1, d1⟩ ⟨hi, h1, t1, sz1, e1⟩
  dsimp only at hi h1 t1 sz1 e1
  dsimp only
  repeat' (first|refine wA ?_|refine wB ?_|refine wH ?_|refine wI ?_|refine wJ ?_|refine wC ?_|refine wD ?_|refine wE ?_|refine wF ?_|refine wG ?_|refine wK ?_|refine wL ?_|refine wM ?_|refine wN ?_|refine wO ?_|refine wP ?_|refine wQ ?_|refine wR ?_|refine wS ?_|refine wT ?_|refine wU ?_|refine wV ?_|refine wW ?_|refine wX ?_)
  refine Ops.cmp rfl rfl rfl (fun hc => ?_) (fun hc => ?_)
  · rw [insOuter_go (by omega)] at e1
    repeat' (first|refine wA ?_|refine wB ?_|refine wH ?_|refine wI ?_|refine wJ ?_|refine wC ?_|refine wD ?_|refine wE ?_|refine wF ?_|refine wG ?_|refine wK ?_|refine wL ?_|refine wM ?_|refine wN ?_|refine wO ?_|refine wP ?_|refine wQ ?_|refine wR ?_|refine wS ?_|refine wT ?_|refine wU ?_|refine wV ?_|refine wW ?_|refine wX ?_)
    refine Run.loopW (fun (x : Nat × Hp × Array LF) => x.1) (fun x => up (up (up (up (up (up jk 0 v) 1 (.int .i64 a)) 2 (.int .i64 b)) 3 (.func (.func g) #[] #[])) 8 (.int .i64 (i : Int))) 9 (.int .i64 (x.1 : Int))) (fun x => x.2.1)
      (fun x => x.1 ≤ i ∧ SR (elF 3) 24 k r x.2.1 v x.2.2 ∧ Tr r H x.2.1 ∧ x.2.2.size = d.size ∧ insOuter (ltc cf) a b (i + 1) (insInner (ltc cf) a x.1 x.2.2) = insertionSort (ltc cf) d a b) (i, H1, d1) rfl (by repeat (first | exact Wk.jk | refine Wk.up rfl ?_)) ⟨Nat.le_refl _, h1, t1, sz1, e1⟩ ?_
    rintro ⟨j, H2, d2⟩ ⟨hj, h2, t2, sz2, e2⟩
    dsimp only at hj h2 t2 sz2 e2
    dsimp only
    repeat' (first|refine wA ?_|refine wB ?_|refine wH ?_|refine wI ?_|refine wJ ?_|refine wC ?_|refine wD ?_|refine wE ?_|refine wF ?_|refine wG ?_|refine wK ?_|refine wL ?_|refine wM ?_|refine wN ?_|refine wO ?_|refine wP ?_|refine wQ ?_|refine wR ?_|refine wS ?_|refine wT ?_|refine wU ?_|refine wV ?_|refine wW ?_|refine wX ?_)
    refine Run.draw [0, 1, 2, 3, 4, 5, 6, 7, 8, 9, 10, 11, 12, 13, 14, 15, 16] Try.checked.mixed (by kernel_rfl) ?_
    repeat' (first|refine wA ?_|refine wB ?_|refine wH ?_|refine wI ?_|refine wJ ?_|refine wC ?_|refine wD ?_|refine wE ?_|refine wF ?_|refine wG ?_|refine wK ?_|refine wL ?_|refine wM ?_|refine wN ?_|refine wO ?_|refine wP ?_|refine wQ ?_|refine wR ?_|refine wS ?_|refine wT ?_|refine wU ?_|refine wV ?_|refine wW ?_|refine wX ?_)
    refine Ops.cmp rfl rfl rfl (fun hc2 => ?_) (fun hc2 => ?_)
    · obtain ⟨q, rfl⟩ : ∃ q, j = q + 1 := ⟨j - 1, by omega⟩
      rw [insInner_succ] at e2
      repeat' (first|refine wA ?_|refine wB ?_|refine wH ?_|refine wI ?_|refine wJ ?_|refine wC ?_|refine wD ?_|refine wE ?_|refine wF ?_|refine wG ?_|refine wK ?_|refine wL ?_|refine wM ?_|refine wN ?_|refine wO ?_|refine wP ?_|refine wQ ?_|refine wR ?_|refine wS ?_|refine wT ?_|refine wU ?_|refine wV ?_|refine wW ?_|refine wX ?_)
      refine Ops.unS rfl rfl rfl ?_
      refine Ops.rdS (q + 1) h2 rfl rfl rfl rfl (by omega) (by kernel_rfl) (by kernel_rfl) fun pz u1 ok1 cu1 => ?_
      repeat' (first|refine wA ?_|refine wB ?_|refine wH ?_|refine wI ?_|refine wJ ?_|refine wC ?_|refine wD ?_|refine wE ?_|refine wF ?_|refine wG ?_|refine wK ?_|refine wL ?_|refine wM ?_|refine wN ?_|refine wO ?_|refine wP ?_|refine wQ ?_|refine wR ?_|refine wS ?_|refine wT ?_|refine wU ?_|refine wV ?_|refine wW ?_|refine wX ?_)
      refine Ops.unS rfl rfl rfl ?_
      refine Ops.rdS q h2 rfl rfl rfl (by omega) (by omega) (by kernel_rfl) (by kernel_rfl) fun pz u2 ok2 cu2 => ?_
      repeat' (first|refine wA ?_|refine wB ?_|refine wH ?_|refine wI ?_|refine wJ ?_|refine wC ?_|refine wD ?_|refine wE ?_|refine wF ?_|refine wG ?_|refine wK ?_|refine wL ?_|refine wM ?_|refine wN ?_|refine wO ?_|refine wP ?_|refine wQ ?_|refine wR ?_|refine wS ?_|refine wT ?_|refine wU ?_|refine wV ?_|refine wW ?_|refine wX ?_)
      refine Ops.callVE rfl (hcmp _ _ _ _ _ ok1 ok2) ?_
      repeat' (first|refine wA ?_|refine wB ?_|refine wH ?_|refine wI ?_|refine wJ ?_|refine wC ?_|refine wD ?_|refine wE ?_|refine wF ?_|refine wG ?_|refine wK ?_|refine wL ?_|refine wM ?_|refine wN ?_|refine wO ?_|refine wP ?_|refine wQ ?_|refine wR ?_|refine wS ?_|refine wT ?_|refine wU ?_|refine wV ?_|refine wW ?_|refine wX ?_)
      refine Ops.cmp rfl rfl rfl (fun hc3 => ?_) (fun hc3 => ?_)
      · have hl : (q + 1 > a && ltc cf d2[q + 1]! d2[q]!) = true := by simp [ltc, hc3]; omega
        rw [if_pos hl] at e2
        repeat' (first|refine wA ?_|refine wB ?_|refine wH ?_|refine wI ?_|refine wJ ?_|refine wC ?_|refine wD ?_|refine wE ?_|refine wF ?_|refine wG ?_|refine wK ?_|refine wL ?_|refine wM ?_|refine wN ?_|refine wO ?_|refine wP ?_|refine wQ ?_|refine wR ?_|refine wS ?_|refine wT ?_|refine wU ?_|refine wV ?_|refine wW ?_|refine wX ?_)
        refine Run.draw [0, 1, 2, 3, 4, 5, 6, 7, 8, 9, 10, 11, 12, 13, 14, 15, 16, 17] Try.checked.mixed (by kernel_rfl) ?_
        repeat' (first|refine wA ?_|refine wB ?_|refine wH ?_|refine wI ?_|refine wJ ?_|refine wC ?_|refine wD ?_|refine wE ?_|refine wF ?_|refine wG ?_|refine wK ?_|refine wL ?_|refine wM ?_|refine wN ?_|refine wO ?_|refine wP ?_|refine wQ ?_|refine wR ?_|refine wS ?_|refine wT ?_|refine wU ?_|refine wV ?_|refine wW ?_|refine wX ?_)
        refine Ops.rdS q h2 rfl rfl rfl (by omega) (by omega) (by kernel_rfl) (by kernel_rfl) fun pz u3 ok3 cu3 => ?_
        repeat' (first|refine wA ?_|refine wB ?_|refine wH ?_|refine wI ?_|refine wJ ?_|refine wC ?_|refine wD ?_|refine wE ?_|refine wF ?_|refine wG ?_|refine wK ?_|refine wL ?_|refine wM ?_|refine wN ?_|refine wO ?_|refine wP ?_|refine wQ ?_|refine wR ?_|refine wS ?_|refine wT ?_|refine wU ?_|refine wV ?_|refine wW ?_|refine wX ?_)
        refine Ops.rdS (q + 1) h2 rfl rfl rfl rfl (by omega) (by kernel_rfl) (by kernel_rfl) fun pz u4 ok4 cu4 => ?_
        refine Ops.swS (q + 1) q h2 rfl rfl rfl rfl rfl rfl (by omega) (by omega) (by omega) rfl rfl ok3 ok4 cu3 cu4 (by simp) (by simp) (by simp) (by simp) (by simp) (by kernel_rfl) (by kernel_rfl) (by kernel_rfl) fun pz qz H3 h3 t3 => ?_
        repeat' (first|refine wA ?_|refine wB ?_|refine wH ?_|refine wI ?_|refine wJ ?_|refine wC ?_|refine wD ?_|refine wE ?_|refine wF ?_|refine wG ?_|refine wK ?_|refine wL ?_|refine wM ?_|refine wN ?_|refine wO ?_|refine wP ?_|refine wQ ?_|refine wR ?_|refine wS ?_|refine wT ?_|refine wU ?_|refine wV ?_|refine wW ?_|refine wX ?_)
        have e9 : ((q + 1 : Nat) : Int) - 1 = (q : Int) := by omega
        rw [e9]
        refine ⟨(q, H3, swp d2 (q + 1) q), by dsimp only; omega, rfl, rfl, by dsimp only; exact (by repeat (first | exact Wk.jk | refine Wk.up rfl ?_)), ?_⟩
        exact ⟨by dsimp only; omega, h3, t2.trans t3, by rw [size_swp]; exact sz2, e2⟩
      · have hl : ¬ (q + 1 > a && ltc cf d2[q + 1]! d2[q]!) = true := by simp [ltc, hc3]
        rw [if_neg hl] at e2
        repeat' (first|refine wA ?_|refine wB ?_|refine wH ?_|refine wI ?_|refine wJ ?_|refine wC ?_|refine wD ?_|refine wE ?_|refine wF ?_|refine wG ?_|refine wK ?_|refine wL ?_|refine wM ?_|refine wN ?_|refine wO ?_|refine wP ?_|refine wQ ?_|refine wR ?_|refine wS ?_|refine wT ?_|refine wU ?_|refine wV ?_|refine wW ?_|refine wX ?_)
        refine ⟨(i + 1, H2, d2), by dsimp only; omega, rfl, rfl, by dsimp only; exact (by repeat (first | exact Wk.jk | refine Wk.up rfl ?_)), ?_⟩
        exact ⟨by dsimp only; omega, h2, t2, sz2, e2⟩
    · have e3 : insInner (ltc cf) a j d2 = d2 := by
        cases j with
        | zero => rfl
        | succ q =>
          rw [insInner_succ, if_neg]
          simp; omega
      rw [e3] at e2
      repeat' (first|refine wA ?_|refine wB ?_|refine wH ?_|refine wI ?_|refine wJ ?_|refine wC ?_|refine wD ?_|refine wE ?_|refine wF ?_|refine wG ?_|refine wK ?_|refine wL ?_|refine wM ?_|refine wN ?_|refine wO ?_|refine wP ?_|refine wQ ?_|refine wR ?_|refine wS ?_|refine wT ?_|refine wU ?_|refine wV ?_|refine wW ?_|refine wX ?_)
      refine ⟨(i + 1, H2, d2), by dsimp only; omega, rfl, rfl, by dsimp only; exact (by repeat (first | exact Wk.jk | refine Wk.up rfl ?_)), ?_⟩
      exact ⟨by dsimp only; omega, h2, t2, sz2, e2⟩
  · repeat' (first|refine wA ?_|refine wB ?_|refine wH ?_|refine wI ?_|refine wJ ?_|refine wC ?_|refine wD ?_|refine wE ?_|refine wF ?_|refine wG ?_|refine wK ?_|refine wL ?_|refine wM ?_|refine wN ?_|refine wO ?_|refine wP ?_|refine wQ ?_|refine wR ?_|refine wS ?_|refine wT ?_|refine wU ?_|refine wV ?_|refine wW ?_|refine wX ?_)
    rw [insOuter_end (by omega)] at e1
    exact ⟨.inr rfl, ResK.nil ⟨e1 ▸ h1, t1⟩⟩

omit hcmp
theorem reverseLoop_go {i j : Nat} {d : Array LF} (h : i < j) : reverseLoop i j d = reverseLoop (i + 1) (j - 1) (swp d i j) := by rw [reverseLoop, if_pos h]
theorem reverseLoop_end {i j : Nat} {d : Array LF} (h : ¬ i < j) : reverseLoop i j d = d := by rw [reverseLoop, if_neg h]

theorem reverseRange_ok (fv : Value) (h : SR (elF 3) 24 k r H v d) (hb : b ≤ d.size) (ha : a < b) (hn : d.size ≤ 1099511627776) :
    CallK Try.prog 114 [v, .int .i64 a, .int .i64 b, fv] H (fun _ H' => SR (elF 3) 24 k r H' v (reverseRange d a b) ∧ Tr r H H') := by
  refine (CallK.enter Try.func114 rfl rfl Try.ntmps114 Try.results114 rfl ?_)
  repeat' (first|refine wA ?_|refine wB ?_|refine wH ?_|refine wI ?_|refine wJ ?_|refine wC ?_|refine wD ?_|refine wE ?_|refine wF ?_|refine wG ?_|refine wK ?_|refine wL ?_|refine wM ?_|refine wN ?_|refine wO ?_|refine wP ?_|refine wQ ?_|refine wR ?_|refine wS ?_|refine wT ?_|refine wU ?_|refine wV ?_|refine wW ?_|refine wX ?_)
  have e9 : (b : Int) - 1 = ((b - 1 : Nat) : Int) := by omega
  rw [e9]
  refine Run.loopW (fun (x : Nat × Nat × Hp × Array LF) => x.2.1 - x.1) (fun x => up (up (up jk 0 v) 8 (.int .i64 (x.1 : Int))) 9 (.int .i64 (x.2.1 : Int))) (fun x => x.2.2.1)
    (fun x => x.2.1 < b ∧ SR (elF 3) 24 k r x.2.2.1 v x.2.2.2 ∧ Tr r H x.2.2.1 ∧ x.2.2.2.size = d.size ∧ reverseLoop x.1 x.2.1 x.2.2.2 = reverseRange d a b) (a, b - 1, H, d) rfl (by repeat (first | exact Wk.jk | refine Wk.up rfl ?_)) ⟨by dsimp only; omega, h, Tr.refl, rfl, rfl⟩ ?_
  rintro ⟨i, j, H1, d1⟩ ⟨hj, h1, t1, sz1, e1⟩
  dsimp only at hj h1 t1 sz1 e1
  dsimp only
  repeat' (first|refine wA ?_|refine wB ?_|refine wH ?_|refine wI ?_|refine wJ ?_|refine wC ?_|refine wD ?_|refine wE ?_|refine wF ?_|refine wG ?_|refine wK ?_|refine wL ?_|refine wM ?_|refine wN ?_|refine wO ?_|refine wP ?_|refine wQ ?_|refine wR ?_|refine wS ?_|refine wT ?_|refine wU ?_|refine wV ?_|refine wW ?_|refine wX ?_)
  refine Ops.cmp rfl rfl rfl (fun hc => ?_) (fun hc => ?_)
  · rw [reverseLoop_go (by omega)] at e1
    repeat' (first|refine wA ?_|refine wB ?_|refine wH ?_|refine wI ?_|refine wJ ?_|refine wC ?_|refine wD ?_|refine wE ?_|refine wF ?_|refine wG ?_|refine wK ?_|refine wL ?_|refine wM ?_|refine wN ?_|refine wO ?_|refine wP ?_|refine wQ ?_|refine wR ?_|refine wS ?_|refine wT ?_|refine wU ?_|refine wV ?_|refine wW ?_|refine wX ?_)
    refine Run.draw [0, 1, 2, 3, 4, 5, 6, 7, 8, 9, 10, 11, 12, 13, 14, 15] Try.checked.mixed (by kernel_rfl) ?_
    repeat' (first|refine wA ?_|refine wB ?_|refine wH ?_|refine wI ?_|refine wJ ?_|refine wC ?_|refine wD ?_|refine wE ?_|refine wF ?_|refine wG ?_|refine wK ?_|refine wL ?_|refine wM ?_|refine wN ?_|refine wO ?_|refine wP ?_|refine wQ ?_|refine wR ?_|refine wS ?_|refine wT ?_|refine wU ?_|refine wV ?_|refine wW ?_|refine wX ?_)
    refine Ops.rdS j h1 rfl rfl rfl rfl (by omega) (by kernel_rfl) (by kernel_rfl) fun pz u3 ok3 cu3 => ?_
    repeat' (first|refine wA ?_|refine wB ?_|refine wH ?_|refine wI ?_|refine wJ ?_|refine wC ?_|refine wD ?_|refine wE ?_|refine wF ?_|refine wG ?_|refine wK ?_|refine wL ?_|refine wM ?_|refine wN ?_|refine wO ?_|refine wP ?_|refine wQ ?_|refine wR ?_|refine wS ?_|refine wT ?_|refine wU ?_|refine wV ?_|refine wW ?_|refine wX ?_)
    refine Ops.rdS i h1 rfl rfl rfl rfl (by omega) (by kernel_rfl) (by kernel_rfl) fun pz u4 ok4 cu4 => ?_
    refine Ops.swS i j h1 rfl rfl rfl rfl rfl rfl rfl (by omega) (by omega) rfl rfl ok3 ok4 cu3 cu4 (by simp) (by simp) (by simp) (by simp) (by simp) (by kernel_rfl) (by kernel_rfl) (by kernel_rfl) fun pz qz H3 h3 t3 => ?_
    repeat' (first|refine wA ?_|refine wB ?_|refine wH ?_|refine wI ?_|refine wJ ?_|refine wC ?_|refine wD ?_|refine wE ?_|refine wF ?_|refine wG ?_|refine wK ?_|refine wL ?_|refine wM ?_|refine wN ?_|refine wO ?_|refine wP ?_|refine wQ ?_|refine wR ?_|refine wS ?_|refine wT ?_|refine wU ?_|refine wV ?_|refine wW ?_|refine wX ?_)
    have e8 : (j : Int) - 1 = ((j - 1 : Nat) : Int) := by omega
    rw [e8]
    refine ⟨(i + 1, j - 1, H3, swp d1 i j), by dsimp only; omega, rfl, rfl, by dsimp only; exact (by repeat (first | exact Wk.jk | refine Wk.up rfl ?_)), ?_⟩
    exact ⟨by dsimp only; omega, h3, t1.trans t3, by rw [size_swp]; exact sz1, e1⟩
  · repeat' (first|refine wA ?_|refine wB ?_|refine wH ?_|refine wI ?_|refine wJ ?_|refine wC ?_|refine wD ?_|refine wE ?_|refine wF ?_|refine wG ?_|refine wK ?_|refine wL ?_|refine wM ?_|refine wN ?_|refine wO ?_|refine wP ?_|refine wQ ?_|refine wR ?_|refine wS ?_|refine wT ?_|refine wU ?_|refine wV ?_|refine wW ?_|refine wX ?_)
    rw [reverseLoop_end (by omega)] at e1
    exact ⟨.inr rfl, ResK.nil ⟨e1 ▸ h1, t1⟩⟩

end
end Go.Proofs.Ytefmjpbmdoebaaa

/- Sorting rows of rows: the heap. -/
set_option linter.unusedVariables false
namespace Go.Proofs.Ytefmjpbmdoebaaa
open Go Go.RowKit Go.Sort

section
variable {g : FuncId} {cf : LF → LF → Int} (hcmp : ∀ (H : Hp) (u1 u2 : Value) (a b : LF), (cF cI 3).ok H [u1] a → (cF cI 3).ok H [u2] b → acall Try.prog g [u1, u2] H (.int .i64 (cf a b)) H)
  {H : Hp} {v : Value} {d : Array LF} {k r a b : Nat}

theorem siftDown_end {lt : LF → LF → Bool} {hi first root : Nat} {d : Array LF} (h : 2 * root + 1 ≥ hi) : siftDown lt hi first root d = d := by rw [siftDown, dif_pos h]
theorem siftDown_b {lt : LF → LF → Bool} {hi first root : Nat} {d : Array LF} (h : ¬ 2 * root + 1 ≥ hi) (h3 : 2 * root + 1 + 1 < hi) (h2 : lt d[first + (2 * root + 1)]! d[first + (2 * root + 1) + 1]! = true) :
    siftDown lt hi first root d = if lt d[first + root]! d[first + (2 * root + 2)]! then siftDown lt hi first (2 * root + 2) (swp d (first + root) (first + (2 * root + 2))) else d := by
  rw [siftDown, dif_neg h, if_pos (by simp [h2]; omega)]
  by_cases h4 : lt d[first + root]! d[first + (2 * root + 2)]! = true
  · rw [if_pos h4, if_neg (by simp [h4]), dif_pos (by omega)]
  · rw [if_neg h4, if_pos (by simp at h4; simp [h4])]
theorem siftDown_a {lt : LF → LF → Bool} {hi first root : Nat} {d : Array LF} (h : ¬ 2 * root + 1 ≥ hi) (h2 : ¬ (2 * root + 1 + 1 < hi ∧ lt d[first + (2 * root + 1)]! d[first + (2 * root + 1) + 1]! = true)) :
    siftDown lt hi first root d = if lt d[first + root]! d[first + (2 * root + 1)]! then siftDown lt hi first (2 * root + 1) (swp d (first + root) (first + (2 * root + 1))) else d := by
  rw [siftDown, dif_neg h, if_neg (by simpa using h2)]
  by_cases h4 : lt d[first + root]! d[first + (2 * root + 1)]! = true
  · rw [if_pos h4, if_neg (by simp [h4])]
  · rw [if_neg h4, if_pos (by simp at h4; simp [h4])]

theorem heapBuild_succ (lt : LF → LF → Bool) (hi first k : Nat) (d : Array LF) : heapBuild lt hi first (k + 1) d = heapBuild lt hi first k (siftDown lt hi first k d) := rfl
theorem heapPop_succ (lt : LF → LF → Bool) (first k : Nat) (d : Array LF) : heapPop lt first (k + 1) d = heapPop lt first k (siftDown lt k first 0 (swp d first (first + k))) := rfl

theorem siftDown_size (lt : LF → LF → Bool) (hi first : Nat) : ∀ (n root : Nat) (d : Array LF), hi - root ≤ n → (siftDown lt hi first root d).size = d.size := by
  intro n
  induction n with
  | zero => intro root d h; rw [siftDown_end (by omega)]
  | succ n ih =>
    intro root d h
    by_cases h1 : 2 * root + 1 ≥ hi
    · rw [siftDown_end h1]
    · by_cases h2 : 2 * root + 1 + 1 < hi ∧ lt d[first + (2 * root + 1)]! d[first + (2 * root + 1) + 1]! = true
      · rw [siftDown_b h1 h2.1 h2.2]
        split
        · rw [ih _ _ (by omega), size_swp]
        · rfl
      · rw [siftDown_a h1 h2]
        split
        · rw [ih _ _ (by omega), size_swp]
        · rfl

include hcmp
set_option maxHeartbeats 1000000 in
theorem siftDown_ok {lo hi first : Nat} (h : SR (elF 3) 24 k r H v d) (hb : first + hi ≤ d.size) (hn : d.size ≤ 1099511627776) (hlo : lo ≤ d.size) :
    CallK Try.prog 120 [v, .int .i64 lo, .int .i64 hi, .int .i64 first, .func (.func g) #[] #[]] H (fun _ H' => SR (elF 3) 24 k r H' v (siftDown (ltc cf) hi first lo d) ∧ Tr r H H') := by
  refine (CallK.enter Try.func120 rfl rfl Try.ntmps120 Try.results120 rfl ?_)
  repeat' (first|refine wA ?_|refine wB ?_|refine wH ?_|refine wI ?_|refine wJ ?_|refine wC ?_|refine wD ?_|refine wE ?_|refine wF ?_|refine wG ?_|refine wK ?_|refine wL ?_|refine wM ?_|refine wN ?_|refine wO ?_|refine wP ?_|refine wQ ?_|refine wR ?_|refine wS ?_|refine wT ?_|refine wU ?_|refine wV ?_|refine wW ?_|refine wX ?_)
  refine Run.loopW (fun (x : Nat × Hp × Array LF) => hi - x.1) (fun x => up (up (up (up (up jk 0 v) 2 (.int .i64 hi)) 3 (.int .i64 first)) 4 (.func (.func g) #[] #[])) 10 (.int .i64 (x.1 : Int))) (fun x => x.2.1)
    (fun x => x.1 ≤ d.size ∧ SR (elF 3) 24 k r x.2.1 v x.2.2 ∧ Tr r H x.2.1 ∧ x.2.2.size = d.size ∧ siftDown (ltc cf) hi first x.1 x.2.2 = siftDown (ltc cf) hi first lo d) (lo, H, d) rfl (by repeat (first | exact Wk.jk | refine Wk.up rfl ?_)) ⟨hlo, h, Tr.refl, rfl, rfl⟩ ?_
  rintro ⟨q, H1, d1⟩ ⟨hq, h1, t1, sz1, e1⟩
  dsimp only at hq h1 t1 sz1 e1
  dsimp only
  repeat' (first|refine wA ?_|refine wB ?_|refine wH ?_|refine wI ?_|refine wJ ?_|refine wC ?_|refine wD ?_|refine wE ?_|refine wF ?_|refine wG ?_|refine wK ?_|refine wL ?_|refine wM ?_|refine wN ?_|refine wO ?_|refine wP ?_|refine wQ ?_|refine wR ?_|refine wS ?_|refine wT ?_|refine wU ?_|refine wV ?_|refine wW ?_|refine wX ?_)
  refine Ops.mul rfl rfl (by omega) (by omega) ?_
  repeat' (first|refine wA ?_|refine wB ?_|refine wH ?_|refine wI ?_|refine wJ ?_|refine wC ?_|refine wD ?_|refine wE ?_|refine wF ?_|refine wG ?_|refine wK ?_|refine wL ?_|refine wM ?_|refine wN ?_|refine wO ?_|refine wP ?_|refine wQ ?_|refine wR ?_|refine wS ?_|refine wT ?_|refine wU ?_|refine wV ?_|refine wW ?_|refine wX ?_)
  refine Ops.cmp rfl rfl rfl (fun hc => ?_) (fun hc => ?_)
  · repeat' (first|refine wA ?_|refine wB ?_|refine wH ?_|refine wI ?_|refine wJ ?_|refine wC ?_|refine wD ?_|refine wE ?_|refine wF ?_|refine wG ?_|refine wK ?_|refine wL ?_|refine wM ?_|refine wN ?_|refine wO ?_|refine wP ?_|refine wQ ?_|refine wR ?_|refine wS ?_|refine wT ?_|refine wU ?_|refine wV ?_|refine wW ?_|refine wX ?_)
    rw [siftDown_end (by omega)] at e1
    exact ⟨.inr rfl, ResK.nil ⟨e1 ▸ h1, t1⟩⟩
  · repeat' (first|refine wA ?_|refine wB ?_|refine wH ?_|refine wI ?_|refine wJ ?_|refine wC ?_|refine wD ?_|refine wE ?_|refine wF ?_|refine wG ?_|refine wK ?_|refine wL ?_|refine wM ?_|refine wN ?_|refine wO ?_|refine wP ?_|refine wQ ?_|refine wR ?_|refine wS ?_|refine wT ?_|refine wU ?_|refine wV ?_|refine wW ?_|refine wX ?_)
    refine Run.draw [0, 1, 2, 3, 4, 5, 6, 7, 8, 9, 10, 11, 12, 13, 14, 15, 16, 17, 18, 19, 20, 21] Try.checked.mixed (by kernel_rfl) ?_
    repeat' (first|refine wA ?_|refine wB ?_|refine wH ?_|refine wI ?_|refine wJ ?_|refine wC ?_|refine wD ?_|refine wE ?_|refine wF ?_|refine wG ?_|refine wK ?_|refine wL ?_|refine wM ?_|refine wN ?_|refine wO ?_|refine wP ?_|refine wQ ?_|refine wR ?_|refine wS ?_|refine wT ?_|refine wU ?_|refine wV ?_|refine wW ?_|refine wX ?_)
    refine Ops.cmp rfl rfl rfl (fun hc2 => ?_) (fun hc2 => ?_)
    · repeat' (first|refine wA ?_|refine wB ?_|refine wH ?_|refine wI ?_|refine wJ ?_|refine wC ?_|refine wD ?_|refine wE ?_|refine wF ?_|refine wG ?_|refine wK ?_|refine wL ?_|refine wM ?_|refine wN ?_|refine wO ?_|refine wP ?_|refine wQ ?_|refine wR ?_|refine wS ?_|refine wT ?_|refine wU ?_|refine wV ?_|refine wW ?_|refine wX ?_)
      refine Ops.unS rfl rfl rfl ?_
      refine Ops.rdS (first + (2 * q + 1)) h1 rfl rfl rfl (by omega) (by omega) (by kernel_rfl) (by kernel_rfl) fun pz u1 ok1 cu1 => ?_
      repeat' (first|refine wA ?_|refine wB ?_|refine wH ?_|refine wI ?_|refine wJ ?_|refine wC ?_|refine wD ?_|refine wE ?_|refine wF ?_|refine wG ?_|refine wK ?_|refine wL ?_|refine wM ?_|refine wN ?_|refine wO ?_|refine wP ?_|refine wQ ?_|refine wR ?_|refine wS ?_|refine wT ?_|refine wU ?_|refine wV ?_|refine wW ?_|refine wX ?_)
      refine Ops.unS rfl rfl rfl ?_
      refine Ops.rdS (first + (2 * q + 1) + 1) h1 rfl rfl rfl (by omega) (by omega) (by kernel_rfl) (by kernel_rfl) fun pz u2 ok2 cu2 => ?_
      repeat' (first|refine wA ?_|refine wB ?_|refine wH ?_|refine wI ?_|refine wJ ?_|refine wC ?_|refine wD ?_|refine wE ?_|refine wF ?_|refine wG ?_|refine wK ?_|refine wL ?_|refine wM ?_|refine wN ?_|refine wO ?_|refine wP ?_|refine wQ ?_|refine wR ?_|refine wS ?_|refine wT ?_|refine wU ?_|refine wV ?_|refine wW ?_|refine wX ?_)
      refine Ops.callVE rfl (hcmp _ _ _ _ _ ok1 ok2) ?_
      repeat' (first|refine wA ?_|refine wB ?_|refine wH ?_|refine wI ?_|refine wJ ?_|refine wC ?_|refine wD ?_|refine wE ?_|refine wF ?_|refine wG ?_|refine wK ?_|refine wL ?_|refine wM ?_|refine wN ?_|refine wO ?_|refine wP ?_|refine wQ ?_|refine wR ?_|refine wS ?_|refine wT ?_|refine wU ?_|refine wV ?_|refine wW ?_|refine wX ?_)
      refine Ops.cmp rfl rfl rfl (fun hc3 => ?_) (fun hc3 => ?_)
      · rw [siftDown_b (by omega) (by omega) (by simp [ltc, hc3])] at e1
        repeat' (first|refine wA ?_|refine wB ?_|refine wH ?_|refine wI ?_|refine wJ ?_|refine wC ?_|refine wD ?_|refine wE ?_|refine wF ?_|refine wG ?_|refine wK ?_|refine wL ?_|refine wM ?_|refine wN ?_|refine wO ?_|refine wP ?_|refine wQ ?_|refine wR ?_|refine wS ?_|refine wT ?_|refine wU ?_|refine wV ?_|refine wW ?_|refine wX ?_)
        refine Run.draw [0, 1, 2, 3, 4, 5, 6, 7, 8, 9, 10, 11, 12, 13, 14, 15] Try.checked.mixed (by kernel_rfl) ?_
        repeat' (first|refine wA ?_|refine wB ?_|refine wH ?_|refine wI ?_|refine wJ ?_|refine wC ?_|refine wD ?_|refine wE ?_|refine wF ?_|refine wG ?_|refine wK ?_|refine wL ?_|refine wM ?_|refine wN ?_|refine wO ?_|refine wP ?_|refine wQ ?_|refine wR ?_|refine wS ?_|refine wT ?_|refine wU ?_|refine wV ?_|refine wW ?_|refine wX ?_)
        refine Ops.rdS (first + q) h1 rfl rfl rfl (by omega) (by omega) (by kernel_rfl) (by kernel_rfl) fun pz u3 ok3 cu3 => ?_
        repeat' (first|refine wA ?_|refine wB ?_|refine wH ?_|refine wI ?_|refine wJ ?_|refine wC ?_|refine wD ?_|refine wE ?_|refine wF ?_|refine wG ?_|refine wK ?_|refine wL ?_|refine wM ?_|refine wN ?_|refine wO ?_|refine wP ?_|refine wQ ?_|refine wR ?_|refine wS ?_|refine wT ?_|refine wU ?_|refine wV ?_|refine wW ?_|refine wX ?_)
        refine Ops.rdS (first + (2 * q + 2)) h1 rfl rfl rfl (by omega) (by omega) (by kernel_rfl) (by kernel_rfl) fun pz u4 ok4 cu4 => ?_
        refine Ops.callVE rfl (hcmp _ _ _ _ _ ok3 ok4) ?_
        refine Ops.cmp rfl rfl rfl (fun hc5 => ?_) (fun hc5 => ?_)
        · rw [if_pos (by simp [ltc, hc5])] at e1
          repeat' (first|refine wA ?_|refine wB ?_|refine wH ?_|refine wI ?_|refine wJ ?_|refine wC ?_|refine wD ?_|refine wE ?_|refine wF ?_|refine wG ?_|refine wK ?_|refine wL ?_|refine wM ?_|refine wN ?_|refine wO ?_|refine wP ?_|refine wQ ?_|refine wR ?_|refine wS ?_|refine wT ?_|refine wU ?_|refine wV ?_|refine wW ?_|refine wX ?_)
          refine Run.draw [0, 1, 2, 3, 4, 5, 6, 7, 8, 9, 10, 11, 12, 13, 14, 15, 16, 17, 18, 19, 20, 21, 22, 23] Try.checked.mixed (by kernel_rfl) ?_
          repeat' (first|refine wA ?_|refine wB ?_|refine wH ?_|refine wI ?_|refine wJ ?_|refine wC ?_|refine wD ?_|refine wE ?_|refine wF ?_|refine wG ?_|refine wK ?_|refine wL ?_|refine wM ?_|refine wN ?_|refine wO ?_|refine wP ?_|refine wQ ?_|refine wR ?_|refine wS ?_|refine wT ?_|refine wU ?_|refine wV ?_|refine wW ?_|refine wX ?_)
          refine Ops.rdS (first + (2 * q + 2)) h1 rfl rfl rfl (by omega) (by omega) (by kernel_rfl) (by kernel_rfl) fun pz u5 ok5 cu5 => ?_
          repeat' (first|refine wA ?_|refine wB ?_|refine wH ?_|refine wI ?_|refine wJ ?_|refine wC ?_|refine wD ?_|refine wE ?_|refine wF ?_|refine wG ?_|refine wK ?_|refine wL ?_|refine wM ?_|refine wN ?_|refine wO ?_|refine wP ?_|refine wQ ?_|refine wR ?_|refine wS ?_|refine wT ?_|refine wU ?_|refine wV ?_|refine wW ?_|refine wX ?_)
          refine Ops.rdS (first + q) h1 rfl rfl rfl (by omega) (by omega) (by kernel_rfl) (by kernel_rfl) fun pz u6 ok6 cu6 => ?_
          refine Ops.swS (first + q) (first + (2 * q + 2)) h1 rfl rfl rfl rfl (by omega) rfl (by omega) (by omega) (by omega) rfl rfl ok5 ok6 cu5 cu6 (by simp) (by simp) (by simp) (by simp) (by simp) (by kernel_rfl) (by kernel_rfl) (by kernel_rfl) fun pz qz H3 h3 t3 => ?_
          repeat' (first|refine wA ?_|refine wB ?_|refine wH ?_|refine wI ?_|refine wJ ?_|refine wC ?_|refine wD ?_|refine wE ?_|refine wF ?_|refine wG ?_|refine wK ?_|refine wL ?_|refine wM ?_|refine wN ?_|refine wO ?_|refine wP ?_|refine wQ ?_|refine wR ?_|refine wS ?_|refine wT ?_|refine wU ?_|refine wV ?_|refine wW ?_|refine wX ?_)
          have e9 : 2 * (q : Int) + 1 + 1 = (((2 * q + 2) : Nat) : Int) := by omega
          rw [e9]
          refine ⟨((2 * q + 2), H3, swp d1 (first + q) (first + (2 * q + 2))), by dsimp only; omega, rfl, rfl, by dsimp only; exact (by repeat (first | exact Wk.jk | refine Wk.up rfl ?_)), ?_⟩
          exact ⟨by dsimp only; omega, h3, t1.trans t3, by rw [size_swp]; exact sz1, e1⟩
        · rw [if_neg (by simp [ltc, hc5])] at e1
          repeat' (first|refine wA ?_|refine wB ?_|refine wH ?_|refine wI ?_|refine wJ ?_|refine wC ?_|refine wD ?_|refine wE ?_|refine wF ?_|refine wG ?_|refine wK ?_|refine wL ?_|refine wM ?_|refine wN ?_|refine wO ?_|refine wP ?_|refine wQ ?_|refine wR ?_|refine wS ?_|refine wT ?_|refine wU ?_|refine wV ?_|refine wW ?_|refine wX ?_)
          exact Run.ret ⟨.inl rfl, ResK.nil ⟨e1 ▸ h1, t1⟩⟩
      · rw [siftDown_a (by omega) (by simp [ltc, hc3])] at e1
        repeat' (first|refine wA ?_|refine wB ?_|refine wH ?_|refine wI ?_|refine wJ ?_|refine wC ?_|refine wD ?_|refine wE ?_|refine wF ?_|refine wG ?_|refine wK ?_|refine wL ?_|refine wM ?_|refine wN ?_|refine wO ?_|refine wP ?_|refine wQ ?_|refine wR ?_|refine wS ?_|refine wT ?_|refine wU ?_|refine wV ?_|refine wW ?_|refine wX ?_)
        refine Run.draw [0, 1, 2, 3, 4, 5, 6, 7, 8, 9, 10, 11, 12, 13, 14, 15] Try.checked.mixed (by kernel_rfl) ?_
        repeat' (first|refine wA ?_|refine wB ?_|refine wH ?_|refine wI ?_|refine wJ ?_|refine wC ?_|refine wD ?_|refine wE ?_|refine wF ?_|refine wG ?_|refine wK ?_|refine wL ?_|refine wM ?_|refine wN ?_|refine wO ?_|refine wP ?_|refine wQ ?_|refine wR ?_|refine wS ?_|refine wT ?_|refine wU ?_|refine wV ?_|refine wW ?_|refine wX ?_)
        refine Ops.rdS (first + q) h1 rfl rfl rfl (by omega) (by omega) (by kernel_rfl) (by kernel_rfl) fun pz u3 ok3 cu3 => ?_
        repeat' (first|refine wA ?_|refine wB ?_|refine wH ?_|refine wI ?_|refine wJ ?_|refine wC ?_|refine wD ?_|refine wE ?_|refine wF ?_|refine wG ?_|refine wK ?_|refine wL ?_|refine wM ?_|refine wN ?_|refine wO ?_|refine wP ?_|refine wQ ?_|refine wR ?_|refine wS ?_|refine wT ?_|refine wU ?_|refine wV ?_|refine wW ?_|refine wX ?_)
        refine Ops.rdS (first + (2 * q + 1)) h1 rfl rfl rfl (by omega) (by omega) (by kernel_rfl) (by kernel_rfl) fun pz u4 ok4 cu4 => ?_
        refine Ops.callVE rfl (hcmp _ _ _ _ _ ok3 ok4) ?_
        refine Ops.cmp rfl rfl rfl (fun hc5 => ?_) (fun hc5 => ?_)
        · rw [if_pos (by simp [ltc, hc5])] at e1
          repeat' (first|refine wA ?_|refine wB ?_|refine wH ?_|refine wI ?_|refine wJ ?_|refine wC ?_|refine wD ?_|refine wE ?_|refine wF ?_|refine wG ?_|refine wK ?_|refine wL ?_|refine wM ?_|refine wN ?_|refine wO ?_|refine wP ?_|refine wQ ?_|refine wR ?_|refine wS ?_|refine wT ?_|refine wU ?_|refine wV ?_|refine wW ?_|refine wX ?_)
          refine Run.draw [0, 1, 2, 3, 4, 5, 6, 7, 8, 9, 10, 11, 12, 13, 14, 15, 16, 17, 18, 19, 20, 21, 22, 23] Try.checked.mixed (by kernel_rfl) ?_
          repeat' (first|refine wA ?_|refine wB ?_|refine wH ?_|refine wI ?_|refine wJ ?_|refine wC ?_|refine wD ?_|refine wE ?_|refine wF ?_|refine wG ?_|refine wK ?_|refine wL ?_|refine wM ?_|refine wN ?_|refine wO ?_|refine wP ?_|refine wQ ?_|refine wR ?_|refine wS ?_|refine wT ?_|refine wU ?_|refine wV ?_|refine wW ?_|refine wX ?_)
          refine Ops.rdS (first + (2 * q + 1)) h1 rfl rfl rfl (by omega) (by omega) (by kernel_rfl) (by kernel_rfl) fun pz u5 ok5 cu5 => ?_
          repeat' (first|refine wA ?_|refine wB ?_|refine wH ?_|refine wI ?_|refine wJ ?_|refine wC ?_|refine wD ?_|refine wE ?_|refine wF ?_|refine wG ?_|refine wK ?_|refine wL ?_|refine wM ?_|refine wN ?_|refine wO ?_|refine wP ?_|refine wQ ?_|refine wR ?_|refine wS ?_|refine wT ?_|refine wU ?_|refine wV ?_|refine wW ?_|refine wX ?_)
          refine Ops.rdS (first + q) h1 rfl rfl rfl (by omega) (by omega) (by kernel_rfl) (by kernel_rfl) fun pz u6 ok6 cu6 => ?_
          refine Ops.swS (first + q) (first + (2 * q + 1)) h1 rfl rfl rfl rfl (by omega) rfl (by omega) (by omega) (by omega) rfl rfl ok5 ok6 cu5 cu6 (by simp) (by simp) (by simp) (by simp) (by simp) (by kernel_rfl) (by kernel_rfl) (by kernel_rfl) fun pz qz H3 h3 t3 => ?_
          repeat' (first|refine wA ?_|refine wB ?_|refine wH ?_|refine wI ?_|refine wJ ?_|refine wC ?_|refine wD ?_|refine wE ?_|refine wF ?_|refine wG ?_|refine wK ?_|refine wL ?_|refine wM ?_|refine wN ?_|refine wO ?_|refine wP ?_|refine wQ ?_|refine wR ?_|refine wS ?_|refine wT ?_|refine wU ?_|refine wV ?_|refine wW ?_|refine wX ?_)
          have e9 : 2 * (q : Int) + 1 = (((2 * q + 1) : Nat) : Int) := by omega
          rw [e9]
          refine ⟨((2 * q + 1), H3, swp d1 (first + q) (first + (2 * q + 1))), by dsimp only; omega, rfl, rfl, by dsimp only; exact (by repeat (first | exact Wk.jk | refine Wk.up rfl ?_)), ?_⟩
          exact ⟨by dsimp only; omega, h3, t1.trans t3, by rw [size_swp]; exact sz1, e1⟩
        · rw [if_neg (by simp [ltc, hc5])] at e1
          repeat' (first|refine wA ?_|refine wB ?_|refine wH ?_|refine wI ?_|refine wJ ?_|refine wC ?_|refine wD ?_|refine wE ?_|refine wF ?_|refine wG ?_|refine wK ?_|refine wL ?_|refine wM ?_|refine wN ?_|refine wO ?_|refine wP ?_|refine wQ ?_|refine wR ?_|refine wS ?_|refine wT ?_|refine wU ?_|refine wV ?_|refine wW ?_|refine wX ?_)
          exact Run.ret ⟨.inl rfl, ResK.nil ⟨e1 ▸ h1, t1⟩⟩
    · rw [siftDown_a (by omega) (by omega)] at e1
      repeat' (first|refine wA ?_|refine wB ?_|refine wH ?_|refine wI ?_|refine wJ ?_|refine wC ?_|refine wD ?_|refine wE ?_|refine wF ?_|refine wG ?_|refine wK ?_|refine wL ?_|refine wM ?_|refine wN ?_|refine wO ?_|refine wP ?_|refine wQ ?_|refine wR ?_|refine wS ?_|refine wT ?_|refine wU ?_|refine wV ?_|refine wW ?_|refine wX ?_)
      refine Run.draw [0, 1, 2, 3, 4, 5, 6, 7, 8, 9, 10, 11, 12, 13, 14, 15] Try.checked.mixed (by kernel_rfl) ?_
      repeat' (first|refine wA ?_|refine wB ?_|refine wH ?_|refine wI ?_|refine wJ ?_|refine wC ?_|refine wD ?_|refine wE ?_|refine wF ?_|refine wG ?_|refine wK ?_|refine wL ?_|refine wM ?_|refine wN ?_|refine wO ?_|refine wP ?_|refine wQ ?_|refine wR ?_|refine wS ?_|refine wT ?_|refine wU ?_|refine wV ?_|refine wW ?_|refine wX ?_)
      refine Ops.rdS (first + q) h1 rfl rfl rfl (by omega) (by omega) (by kernel_rfl) (by kernel_rfl) fun pz u3 ok3 cu3 => ?_
      repeat' (first|refine wA ?_|refine wB ?_|refine wH ?_|refine wI ?_|refine wJ ?_|refine wC ?_|refine wD ?_|refine wE ?_|refine wF ?_|refine wG ?_|refine wK ?_|refine wL ?_|refine wM ?_|refine wN ?_|refine wO ?_|refine wP ?_|refine wQ ?_|refine wR ?_|refine wS ?_|refine wT ?_|refine wU ?_|refine wV ?_|refine wW ?_|refine wX ?_)
      refine Ops.rdS (first + (2 * q + 1)) h1 rfl rfl rfl (by omega) (by omega) (by kernel_rfl) (by kernel_rfl) fun pz u4 ok4 cu4 => ?_
      refine Ops.callVE rfl (hcmp _ _ _ _ _ ok3 ok4) ?_
      refine Ops.cmp rfl rfl rfl (fun hc5 => ?_) (fun hc5 => ?_)
      · rw [if_pos (by simp [ltc, hc5])] at e1
        repeat' (first|refine wA ?_|refine wB ?_|refine wH ?_|refine wI ?_|refine wJ ?_|refine wC ?_|refine wD ?_|refine wE ?_|refine wF ?_|refine wG ?_|refine wK ?_|refine wL ?_|refine wM ?_|refine wN ?_|refine wO ?_|refine wP ?_|refine wQ ?_|refine wR ?_|refine wS ?_|refine wT ?_|refine wU ?_|refine wV ?_|refine wW ?_|refine wX ?_)
        refine Run.draw [0, 1, 2, 3, 4, 5, 6, 7, 8, 9, 10, 11, 12, 13, 14, 15, 16, 17, 18, 19, 20, 21, 22, 23] Try.checked.mixed (by kernel_rfl) ?_
        repeat' (first|refine wA ?_|refine wB ?_|refine wH ?_|refine wI ?_|refine wJ ?_|refine wC ?_|refine wD ?_|refine wE ?_|refine wF ?_|refine wG ?_|refine wK ?_|refine wL ?_|refine wM ?_|refine wN ?_|refine wO ?_|refine wP ?_|refine wQ ?_|refine wR ?_|refine wS ?_|refine wT ?_|refine wU ?_|refine wV ?_|refine wW ?_|refine wX ?_)
        refine Ops.rdS (first + (2 * q + 1)) h1 rfl rfl rfl (by omega) (by omega) (by kernel_rfl) (by kernel_rfl) fun pz u5 ok5 cu5 => ?_
        repeat' (first|refine wA ?_|refine wB ?_|refine wH ?_|refine wI ?_|refine wJ ?_|refine wC ?_|refine wD ?_|refine wE ?_|refine wF ?_|refine wG ?_|refine wK ?_|refine wL ?_|refine wM ?_|refine wN ?_|refine wO ?_|refine wP ?_|refine wQ ?_|refine wR ?_|refine wS ?_|refine wT ?_|refine wU ?_|refine wV ?_|refine wW ?_|refine wX ?_)
        refine Ops.rdS (first + q) h1 rfl rfl rfl (by omega) (by omega) (by kernel_rfl) (by kernel_rfl) fun pz u6 ok6 cu6 => ?_
        refine Ops.swS (first + q) (first + (2 * q + 1)) h1 rfl rfl rfl rfl (by omega) rfl (by omega) (by omega) (by omega) rfl rfl ok5 ok6 cu5 cu6 (by simp) (by simp) (by simp) (by simp) (by simp) (by kernel_rfl) (by kernel_rfl) (by kernel_rfl) fun pz qz H3 h3 t3 => ?_
        repeat' (first|refine wA ?_|refine wB ?_|refine wH ?_|refine wI ?_|refine wJ ?_|refine wC ?_|refine wD ?_|refine wE ?_|refine wF ?_|refine wG ?_|refine wK ?_|refine wL ?_|refine wM ?_|refine wN ?_|refine wO ?_|refine wP ?_|refine wQ ?_|refine wR ?_|refine wS ?_|refine wT ?_|refine wU ?_|refine wV ?_|refine wW ?_|refine wX ?_)
        have e9 : 2 * (q : Int) + 1 = (((2 * q + 1) : Nat) : Int) := by omega
        rw [e9]
        refine ⟨((2 * q + 1), H3, swp d1 (first + q) (first + (2 * q + 1))), by dsimp only; omega, rfl, rfl, by dsimp only; exact (by repeat (first | exact Wk.jk | refine Wk.up rfl ?_)), ?_⟩
        exact ⟨by dsimp only; omega, h3, t1.trans t3, by rw [size_swp]; exact sz1, e1⟩
      · rw [if_neg (by simp [ltc, hc5])] at e1
        repeat' (first|refine wA ?_|refine wB ?_|refine wH ?_|refine wI ?_|refine wJ ?_|refine wC ?_|refine wD ?_|refine wE ?_|refine wF ?_|refine wG ?_|refine wK ?_|refine wL ?_|refine wM ?_|refine wN ?_|refine wO ?_|refine wP ?_|refine wQ ?_|refine wR ?_|refine wS ?_|refine wT ?_|refine wU ?_|refine wV ?_|refine wW ?_|refine wX ?_)
        exact Run.ret ⟨.inl rfl, ResK.nil ⟨e1 ▸ h1, t1⟩⟩

set_option maxHeartbeats 1000000 in
theorem heapSort_ok (h : SR (elF 3) 24 k r H v d) (hb : b ≤ d.size) (ha : a < b) (hn : d.size ≤ 1099511627776) :
    CallK Try.prog 111 [v, .int .i64 a, .int .i64 b, .func (.func g) #[] #[]] H (fun _ H' => SR (elF 3) 24 k r H' v (heapSort (ltc cf) d a b) ∧ Tr r H H') := by
  refine (CallK.enter Try.func111 rfl rfl Try.ntmps111 Try.results111 rfl ?_)
  repeat' (first|refine wA ?_|refine wB ?_|refine wH ?_|refine wI ?_|refine wJ ?_|refine wC ?_|refine wD ?_|refine wE ?_|refine wF ?_|refine wG ?_|refine wK ?_|refine wL ?_|refine wM ?_|refine wN ?_|refine wO ?_|refine wP ?_|refine wQ ?_|refine wR ?_|refine wS ?_|refine wT ?_|refine wU ?_|refine wV ?_|refine wW ?_|refine wX ?_)
  refine Ops.quo rfl rfl (by omega) (by omega) (by omega) ?_
  repeat' (first|refine wA ?_|refine wB ?_|refine wH ?_|refine wI ?_|refine wJ ?_|refine wC ?_|refine wD ?_|refine wE ?_|refine wF ?_|refine wG ?_|refine wK ?_|refine wL ?_|refine wM ?_|refine wN ?_|refine wO ?_|refine wP ?_|refine wQ ?_|refine wR ?_|refine wS ?_|refine wT ?_|refine wU ?_|refine wV ?_|refine wW ?_|refine wX ?_)
  have e0 : (b : Int) - a = ((b - a : Nat) : Int) := by omega
  have e1 : ((b : Int) - a - 1) / 2 = (((b - a - 1) / 2 + 1 : Nat) : Int) - 1 := by omega
  rw [e1, e0]
  refine Run.loopW (fun (x : Nat × Hp × Array LF) => x.1) (fun x => up (up (up (up (up (up jk 0 v) 3 (.func (.func g) #[] #[])) 8 (.int .i64 a)) 9 (.int .i64 0)) 10 (.int .i64 ((b - a : Nat) : Int))) 11 (.int .i64 ((x.1 : Int) - 1))) (fun x => x.2.1)
    (fun x => x.1 ≤ b - a ∧ SR (elF 3) 24 k r x.2.1 v x.2.2 ∧ Tr r H x.2.1 ∧ x.2.2.size = d.size ∧ heapPop (ltc cf) a (b - a) (heapBuild (ltc cf) (b - a) a x.1 x.2.2) = heapSort (ltc cf) d a b) ((b - a - 1) / 2 + 1, H, d) rfl (by repeat (first | exact Wk.jk | refine Wk.up rfl ?_)) ⟨by dsimp only; omega, h, Tr.refl, rfl, rfl⟩ ?_
  rintro ⟨i, H1, d1⟩ ⟨hi, h1, t1, sz1, e1⟩
  dsimp only at hi h1 t1 sz1 e1
  dsimp only
  repeat' (first|refine wA ?_|refine wB ?_|refine wH ?_|refine wI ?_|refine wJ ?_|refine wC ?_|refine wD ?_|refine wE ?_|refine wF ?_|refine wG ?_|refine wK ?_|refine wL ?_|refine wM ?_|refine wN ?_|refine wO ?_|refine wP ?_|refine wQ ?_|refine wR ?_|refine wS ?_|refine wT ?_|refine wU ?_|refine wV ?_|refine wW ?_|refine wX ?_)
  refine Ops.cmp rfl rfl rfl (fun hc => ?_) (fun hc => ?_)
  · obtain ⟨q, rfl⟩ : ∃ q, i = q + 1 := ⟨i - 1, by omega⟩
    rw [heapBuild_succ] at e1
    have e9 : ((q + 1 : Nat) : Int) - 1 = (q : Int) := by omega
    rw [e9]
    repeat' (first|refine wA ?_|refine wB ?_|refine wH ?_|refine wI ?_|refine wJ ?_|refine wC ?_|refine wD ?_|refine wE ?_|refine wF ?_|refine wG ?_|refine wK ?_|refine wL ?_|refine wM ?_|refine wN ?_|refine wO ?_|refine wP ?_|refine wQ ?_|refine wR ?_|refine wS ?_|refine wT ?_|refine wU ?_|refine wV ?_|refine wW ?_|refine wX ?_)
    refine Ops.call (siftDown_ok hcmp (lo := q) (hi := b - a) (first := a) h1 (by omega) (by omega) (by omega)) (fun _ _ _ hf => by cases hf) fun _ H2 => ?_
    rintro ⟨h2, t2⟩
    repeat' (first|refine wA ?_|refine wB ?_|refine wH ?_|refine wI ?_|refine wJ ?_|refine wC ?_|refine wD ?_|refine wE ?_|refine wF ?_|refine wG ?_|refine wK ?_|refine wL ?_|refine wM ?_|refine wN ?_|refine wO ?_|refine wP ?_|refine wQ ?_|refine wR ?_|refine wS ?_|refine wT ?_|refine wU ?_|refine wV ?_|refine wW ?_|refine wX ?_)
    refine ⟨(q, H2, siftDown (ltc cf) (b - a) a q d1), by dsimp only; omega, rfl, rfl, by dsimp only; exact (by repeat (first | exact Wk.jk | refine Wk.up rfl ?_)), ?_⟩
    exact ⟨by dsimp only; omega, h2, t1.trans t2, by dsimp only; rw [siftDown_size _ _ _ _ _ _ (Nat.le_refl _)]; exact sz1, e1⟩
  · have hi0 : i = 0 := by omega
    subst hi0
    repeat' (first|refine wA ?_|refine wB ?_|refine wH ?_|refine wI ?_|refine wJ ?_|refine wC ?_|refine wD ?_|refine wE ?_|refine wF ?_|refine wG ?_|refine wK ?_|refine wL ?_|refine wM ?_|refine wN ?_|refine wO ?_|refine wP ?_|refine wQ ?_|refine wR ?_|refine wS ?_|refine wT ?_|refine wU ?_|refine wV ?_|refine wW ?_|refine wX ?_)
    have e1 : heapPop (ltc cf) a (b - a) d1 = heapSort (ltc cf) d a b := e1
    refine Run.loopW (fun (x : Nat × Hp × Array LF) => x.1) (fun x => up (up (up (up (up (up jk 0 v) 3 (.func (.func g) #[] #[])) 8 (.int .i64 a)) 9 (.int .i64 0)) 10 (.int .i64 ((b - a : Nat) : Int))) 12 (.int .i64 ((x.1 : Int) - 1))) (fun x => x.2.1)
      (fun x => x.1 ≤ b - a ∧ SR (elF 3) 24 k r x.2.1 v x.2.2 ∧ Tr r H x.2.1 ∧ x.2.2.size = d.size ∧ heapPop (ltc cf) a x.1 x.2.2 = heapSort (ltc cf) d a b) (b - a, H1, d1) rfl (by repeat (first | exact Wk.jk | refine Wk.up rfl ?_)) ⟨Nat.le_refl _, h1, t1, sz1, e1⟩ ?_
    rintro ⟨j, H2, d2⟩ ⟨hj, h2, t2, sz2, e2⟩
    dsimp only at hj h2 t2 sz2 e2
    dsimp only
    repeat' (first|refine wA ?_|refine wB ?_|refine wH ?_|refine wI ?_|refine wJ ?_|refine wC ?_|refine wD ?_|refine wE ?_|refine wF ?_|refine wG ?_|refine wK ?_|refine wL ?_|refine wM ?_|refine wN ?_|refine wO ?_|refine wP ?_|refine wQ ?_|refine wR ?_|refine wS ?_|refine wT ?_|refine wU ?_|refine wV ?_|refine wW ?_|refine wX ?_)
    refine Ops.cmp rfl rfl rfl (fun hc2 => ?_) (fun hc2 => ?_)
    · obtain ⟨q, rfl⟩ : ∃ q, j = q + 1 := ⟨j - 1, by omega⟩
      rw [heapPop_succ] at e2
      have e9 : ((q + 1 : Nat) : Int) - 1 = (q : Int) := by omega
      rw [e9]
      repeat' (first|refine wA ?_|refine wB ?_|refine wH ?_|refine wI ?_|refine wJ ?_|refine wC ?_|refine wD ?_|refine wE ?_|refine wF ?_|refine wG ?_|refine wK ?_|refine wL ?_|refine wM ?_|refine wN ?_|refine wO ?_|refine wP ?_|refine wQ ?_|refine wR ?_|refine wS ?_|refine wT ?_|refine wU ?_|refine wV ?_|refine wW ?_|refine wX ?_)
      refine Run.draw [0, 1, 2, 3, 4, 5, 6, 7, 8, 9, 10, 11, 12, 13, 14, 15, 16, 17, 18, 19] Try.checked.mixed (by kernel_rfl) ?_
      repeat' (first|refine wA ?_|refine wB ?_|refine wH ?_|refine wI ?_|refine wJ ?_|refine wC ?_|refine wD ?_|refine wE ?_|refine wF ?_|refine wG ?_|refine wK ?_|refine wL ?_|refine wM ?_|refine wN ?_|refine wO ?_|refine wP ?_|refine wQ ?_|refine wR ?_|refine wS ?_|refine wT ?_|refine wU ?_|refine wV ?_|refine wW ?_|refine wX ?_)
      refine Ops.rdS (a + q) h2 rfl rfl rfl (by omega) (by omega) (by kernel_rfl) (by kernel_rfl) fun pz u3 ok3 cu3 => ?_
      repeat' (first|refine wA ?_|refine wB ?_|refine wH ?_|refine wI ?_|refine wJ ?_|refine wC ?_|refine wD ?_|refine wE ?_|refine wF ?_|refine wG ?_|refine wK ?_|refine wL ?_|refine wM ?_|refine wN ?_|refine wO ?_|refine wP ?_|refine wQ ?_|refine wR ?_|refine wS ?_|refine wT ?_|refine wU ?_|refine wV ?_|refine wW ?_|refine wX ?_)
      refine Ops.rdS a h2 rfl rfl rfl rfl (by omega) (by kernel_rfl) (by kernel_rfl) fun pz u4 ok4 cu4 => ?_
      refine Ops.swS a (a + q) h2 rfl rfl rfl rfl rfl rfl (by omega) (by omega) (by omega) rfl rfl ok3 ok4 cu3 cu4 (by simp) (by simp) (by simp) (by simp) (by simp) (by kernel_rfl) (by kernel_rfl) (by kernel_rfl) fun pz qz H3 h3 t3 => ?_
      repeat' (first|refine wA ?_|refine wB ?_|refine wH ?_|refine wI ?_|refine wJ ?_|refine wC ?_|refine wD ?_|refine wE ?_|refine wF ?_|refine wG ?_|refine wK ?_|refine wL ?_|refine wM ?_|refine wN ?_|refine wO ?_|refine wP ?_|refine wQ ?_|refine wR ?_|refine wS ?_|refine wT ?_|refine wU ?_|refine wV ?_|refine wW ?_|refine wX ?_)
      have sz3 : (swp d2 a (a + q)).size = d.size := by rw [size_swp]; exact sz2
      refine Ops.call (siftDown_ok hcmp (lo := 0) (hi := q) (first := a) h3 (by omega) (by omega) (by omega)) (fun _ _ _ hf => by cases hf) fun _ H4 => ?_
      rintro ⟨h4, t4⟩
      repeat' (first|refine wA ?_|refine wB ?_|refine wH ?_|refine wI ?_|refine wJ ?_|refine wC ?_|refine wD ?_|refine wE ?_|refine wF ?_|refine wG ?_|refine wK ?_|refine wL ?_|refine wM ?_|refine wN ?_|refine wO ?_|refine wP ?_|refine wQ ?_|refine wR ?_|refine wS ?_|refine wT ?_|refine wU ?_|refine wV ?_|refine wW ?_|refine wX ?_)
      refine ⟨(q, H4, siftDown (ltc cf) q a 0 (swp d2 a (a + q))), by dsimp only; omega, rfl, rfl, by dsimp only; exact (by repeat (first | exact Wk.jk | refine Wk.up rfl ?_)), ?_⟩
      exact ⟨by dsimp only; omega, h4, (t2.trans t3).trans t4, by dsimp only; rw [siftDown_size _ _ _ _ _ _ (Nat.le_refl _)]; exact sz3, e2⟩
    · have hj0 : j = 0 := by omega
      subst hj0
      repeat' (first|refine wA ?_|refine wB ?_|refine wH ?_|refine wI ?_|refine wJ ?_|refine wC ?_|refine wD ?_|refine wE ?_|refine wF ?_|refine wG ?_|refine wK ?_|refine wL ?_|refine wM ?_|refine wN ?_|refine wO ?_|refine wP ?_|refine wQ ?_|refine wR ?_|refine wS ?_|refine wT ?_|refine wU ?_|refine wV ?_|refine wW ?_|refine wX ?_)
      have e2 : d2 = heapSort (ltc cf) d a b := e2
      exact ⟨.inr rfl, ResK.nil ⟨e2 ▸ h2, t2⟩⟩

end
end Go.Proofs.Ytefmjpbmdoebaaa

/- Sorting rows of rows: the partitions. (Printed by gensort.py.) -/
set_option linter.unusedVariables false
namespace Go.Proofs.Ytefmjpbmdoebaaa
open Go Go.RowKit Go.Sort

theorem scanUp_step (p : LF → Bool) (d : Array LF) (j i : Nat) : scanUp p d j i = if i ≤ j && p d[i]! then scanUp p d j (i + 1) else i := by rw [scanUp]
theorem scanDown_succ (p : LF → Bool) (d : Array LF) (i j : Nat) : scanDown p d i (j + 1) = if i ≤ j + 1 && p d[j + 1]! then scanDown p d i j else j + 1 := rfl
theorem scanDown_stop {p : LF → Bool} {d : Array LF} {i j : Nat} (h : ¬ i ≤ j) : scanDown p d i j = j := by
  cases j with
  | zero => rfl
  | succ j => rw [scanDown_succ, if_neg (by simp; omega)]

theorem scanUp_false {p : LF → Bool} {d : Array LF} {j : Nat} : ∀ (n i0 i : Nat), j + 1 - i0 ≤ n → i = scanUp p d j i0 → i ≤ j → p d[i]! = false := by
  intro n
  induction n with
  | zero => intro i0 i h e hi; rw [scanUp_step, if_neg (by simp; omega)] at e; omega
  | succ n ih =>
    intro i0 i h e hi
    rw [scanUp_step] at e
    split at e
    · exact ih (i0 + 1) i (by omega) e hi
    · rename_i hc; subst e; simpa [hi] using hc
theorem scanDown_false {p : LF → Bool} {d : Array LF} {i : Nat} : ∀ (j j2 : Nat), j2 = scanDown p d i j → 0 < i → i ≤ j2 → p d[j2]! = false := by
  intro j
  induction j with
  | zero => intro j2 e h0 h; have : j2 = 0 := e; omega
  | succ j ih =>
    intro j2 e h0 h
    rw [scanDown_succ] at e
    split at e
    · exact ih j2 e h0 h
    · rename_i hc; subst e; simpa [h] using hc
theorem scan_ne {p q : LF → Bool} {d : Array LF} {i0 j0 i j : Nat} (hi : i = scanUp p d j0 i0) (hj : j = scanDown q d i j0) (hq : ∀ x, q x = !p x) (h0 : 0 < i) (h1 : j ≤ j0) (h : i ≤ j) : i < j := by
  rcases Nat.lt_or_ge i j with h2 | h2
  · exact h2
  · have e : i = j := by omega
    have a1 := scanUp_false _ i0 i (Nat.le_refl _) hi (by omega)
    have a2 := scanDown_false j0 j hj h0 h
    rw [← e, hq, a1] at a2
    cases a2

section
variable {g : FuncId} {cf : LF → LF → Int} (hcmp : ∀ (H : Hp) (u1 u2 : Value) (a b : LF), (cF cI 3).ok H [u1] a → (cF cI 3).ok H [u2] b → acall Try.prog g [u1, u2] H (.int .i64 (cf a b)) H)
  {H : Hp} {v : Value} {d : Array LF} {k r a b pivot : Nat}
include hcmp

set_option maxHeartbeats 2000000 in
theorem partition_ok (h : SR (elF 3) 24 k r H v d) (hb : b ≤ d.size) (ha : a ≤ pivot) (hp : pivot < b) (hn : d.size ≤ 1099511627776) :
    CallK Try.prog 117 [v, .int .i64 (a : Int), .int .i64 (b : Int), .int .i64 (pivot : Int), .func (.func g) #[] #[]] H (fun res H' => (∃ ap : Bool, res = .tuple #[.int .i64 ((partLoop (ltc cf) a (a + 1) (b - 1) (swp d a pivot)).1 : Int), .bool ap]) ∧
      SR (elF 3) 24 k r H' v (swp (partLoop (ltc cf) a (a + 1) (b - 1) (swp d a pivot)).2 (partLoop (ltc cf) a (a + 1) (b - 1) (swp d a pivot)).1 a) ∧ Tr r H H') := by
  refine (CallK.enter Try.func117 rfl rfl Try.ntmps117 Try.results117 rfl ?_)
  repeat' (first|refine wA ?_|refine wB ?_|refine wH ?_|refine wI ?_|refine wJ ?_|refine wC ?_|refine wD ?_|refine wE ?_|refine wF ?_|refine wG ?_|refine wK ?_|refine wL ?_|refine wM ?_|refine wN ?_|refine wO ?_|refine wP ?_|refine wQ ?_|refine wR ?_|refine wS ?_|refine wT ?_|refine wU ?_|refine wV ?_|refine wW ?_|refine wX ?_)
  refine Run.draw [0, 1, 2, 3, 4, 5, 6, 7, 8, 9, 10, 11, 12, 13, 14, 15] Try.checked.mixed (by kernel_rfl) ?_
  repeat' (first|refine wA ?_|refine wB ?_|refine wH ?_|refine wI ?_|refine wJ ?_|refine wC ?_|refine wD ?_|refine wE ?_|refine wF ?_|refine wG ?_|refine wK ?_|refine wL ?_|refine wM ?_|refine wN ?_|refine wO ?_|refine wP ?_|refine wQ ?_|refine wR ?_|refine wS ?_|refine wT ?_|refine wU ?_|refine wV ?_|refine wW ?_|refine wX ?_)
  refine Ops.rdS (pivot) h rfl rfl rfl rfl (by omega) (by kernel_rfl) (by kernel_rfl) fun pz u3 ok3 cu3 => ?_
  repeat' (first|refine wA ?_|refine wB ?_|refine wH ?_|refine wI ?_|refine wJ ?_|refine wC ?_|refine wD ?_|refine wE ?_|refine wF ?_|refine wG ?_|refine wK ?_|refine wL ?_|refine wM ?_|refine wN ?_|refine wO ?_|refine wP ?_|refine wQ ?_|refine wR ?_|refine wS ?_|refine wT ?_|refine wU ?_|refine wV ?_|refine wW ?_|refine wX ?_)
  refine Ops.rdS (a) h rfl rfl rfl rfl (by omega) (by kernel_rfl) (by kernel_rfl) fun pz u4 ok4 cu4 => ?_
  refine Ops.swS (a) (pivot) h rfl rfl rfl rfl rfl rfl rfl (by omega) (by omega) rfl rfl ok3 ok4 cu3 cu4 (by simp) (by simp) (by simp) (by simp) (by simp) (by kernel_rfl) (by kernel_rfl) (by kernel_rfl) fun pz qz H1 h1 t1 => ?_
  obtain ⟨d1, hd1⟩ : ∃ y, y = swp d a pivot := ⟨_, rfl⟩
  rw [← hd1] at h1 ⊢
  have sz1 : d1.size = d.size := by rw [hd1, size_swp]
  repeat' (first|refine wA ?_|refine wB ?_|refine wH ?_|refine wI ?_|refine wJ ?_|refine wC ?_|refine wD ?_|refine wE ?_|refine wF ?_|refine wG ?_|refine wK ?_|refine wL ?_|refine wM ?_|refine wN ?_|refine wO ?_|refine wP ?_|refine wQ ?_|refine wR ?_|refine wS ?_|refine wT ?_|refine wU ?_|refine wV ?_|refine wW ?_|refine wX ?_)
  have e7 : (b : Int) - 1 = ((b - 1 : Nat) : Int) := by omega
  have e6' : (a : Int) + 1 = ((a + 1 : Nat) : Int) := by omega
  rw [e7, e6']
  refine Run.joinB (β := Nat) (fun y => up (up (up (up (up jk 0 v) 1 (.int .i64 (a : Int))) 4 (.func (.func g) #[] #[])) 12 (.int .i64 ((y : Nat) : Int))) 13 (.int .i64 (((b - 1) : Nat) : Int))) (fun _ => H1) (fun y => y = scanUp (fun x => ltc cf x d1[a]!) d1 (b - 1) (a + 1) ∧ (a + 1) ≤ y ∧ y ≤ (b - 1) + 1) ?_ ?_
  · refine Run.loopW (fun (x : Nat) => (b - 1) + 1 - x) (fun x => up (up (up (up (up jk 0 v) 1 (.int .i64 (a : Int))) 4 (.func (.func g) #[] #[])) 12 (.int .i64 ((x : Nat) : Int))) 13 (.int .i64 (((b - 1) : Nat) : Int))) (fun _ => H1) (fun x => (a + 1) ≤ x ∧ x ≤ (b - 1) + 1 ∧ scanUp (fun x => ltc cf x d1[a]!) d1 (b - 1) x = scanUp (fun x => ltc cf x d1[a]!) d1 (b - 1) (a + 1)) ((a + 1)) rfl (by repeat (first | exact Wk.jk | refine Wk.up rfl ?_)) ⟨by omega, by omega, rfl⟩ ?_
    rintro q ⟨hq1, hq2, eq⟩
    repeat' (first|refine wA ?_|refine wB ?_|refine wH ?_|refine wI ?_|refine wJ ?_|refine wC ?_|refine wD ?_|refine wE ?_|refine wF ?_|refine wG ?_|refine wK ?_|refine wL ?_|refine wM ?_|refine wN ?_|refine wO ?_|refine wP ?_|refine wQ ?_|refine wR ?_|refine wS ?_|refine wT ?_|refine wU ?_|refine wV ?_|refine wW ?_|refine wX ?_)
    refine Run.draw [0, 1, 2, 3, 4, 5, 6, 7, 8, 9, 10, 11, 12, 13, 14, 15] Try.checked.mixed (by kernel_rfl) ?_
    repeat' (first|refine wA ?_|refine wB ?_|refine wH ?_|refine wI ?_|refine wJ ?_|refine wC ?_|refine wD ?_|refine wE ?_|refine wF ?_|refine wG ?_|refine wK ?_|refine wL ?_|refine wM ?_|refine wN ?_|refine wO ?_|refine wP ?_|refine wQ ?_|refine wR ?_|refine wS ?_|refine wT ?_|refine wU ?_|refine wV ?_|refine wW ?_|refine wX ?_)
    refine Ops.cmp rfl rfl rfl (fun hs1 => ?_) (fun hs1 => ?_)
    · rw [scanUp_step] at eq
      repeat' (first|refine wA ?_|refine wB ?_|refine wH ?_|refine wI ?_|refine wJ ?_|refine wC ?_|refine wD ?_|refine wE ?_|refine wF ?_|refine wG ?_|refine wK ?_|refine wL ?_|refine wM ?_|refine wN ?_|refine wO ?_|refine wP ?_|refine wQ ?_|refine wR ?_|refine wS ?_|refine wT ?_|refine wU ?_|refine wV ?_|refine wW ?_|refine wX ?_)
      refine Ops.unS rfl rfl rfl ?_
      refine Ops.rdS (q) h1 rfl rfl rfl rfl (by omega) (by kernel_rfl) (by kernel_rfl) fun pz u1 ok1 cu1 => ?_
      repeat' (first|refine wA ?_|refine wB ?_|refine wH ?_|refine wI ?_|refine wJ ?_|refine wC ?_|refine wD ?_|refine wE ?_|refine wF ?_|refine wG ?_|refine wK ?_|refine wL ?_|refine wM ?_|refine wN ?_|refine wO ?_|refine wP ?_|refine wQ ?_|refine wR ?_|refine wS ?_|refine wT ?_|refine wU ?_|refine wV ?_|refine wW ?_|refine wX ?_)
      refine Ops.unS rfl rfl rfl ?_
      refine Ops.rdS (a) h1 rfl rfl rfl rfl (by omega) (by kernel_rfl) (by kernel_rfl) fun pz u2 ok2 cu2 => ?_
      repeat' (first|refine wA ?_|refine wB ?_|refine wH ?_|refine wI ?_|refine wJ ?_|refine wC ?_|refine wD ?_|refine wE ?_|refine wF ?_|refine wG ?_|refine wK ?_|refine wL ?_|refine wM ?_|refine wN ?_|refine wO ?_|refine wP ?_|refine wQ ?_|refine wR ?_|refine wS ?_|refine wT ?_|refine wU ?_|refine wV ?_|refine wW ?_|refine wX ?_)
      refine Ops.callVE rfl (hcmp _ _ _ _ _ ok1 ok2) ?_
      repeat' (first|refine wA ?_|refine wB ?_|refine wH ?_|refine wI ?_|refine wJ ?_|refine wC ?_|refine wD ?_|refine wE ?_|refine wF ?_|refine wG ?_|refine wK ?_|refine wL ?_|refine wM ?_|refine wN ?_|refine wO ?_|refine wP ?_|refine wQ ?_|refine wR ?_|refine wS ?_|refine wT ?_|refine wU ?_|refine wV ?_|refine wW ?_|refine wX ?_)
      refine Ops.cmp rfl rfl rfl (fun hs2 => ?_) (fun hs2 => ?_)
      · rw [if_pos (by simp [ltc, hs2]; omega)] at eq
        repeat' (first|refine wA ?_|refine wB ?_|refine wH ?_|refine wI ?_|refine wJ ?_|refine wC ?_|refine wD ?_|refine wE ?_|refine wF ?_|refine wG ?_|refine wK ?_|refine wL ?_|refine wM ?_|refine wN ?_|refine wO ?_|refine wP ?_|refine wQ ?_|refine wR ?_|refine wS ?_|refine wT ?_|refine wU ?_|refine wV ?_|refine wW ?_|refine wX ?_)
        refine ⟨q + 1, by dsimp only; omega, rfl, rfl, by dsimp only; exact (by repeat (first | exact Wk.jk | refine Wk.up rfl ?_)), ?_⟩
        exact ⟨by omega, by omega, eq⟩
      · rw [if_neg (by simp [ltc, hs2])] at eq
        repeat' (first|refine wA ?_|refine wB ?_|refine wH ?_|refine wI ?_|refine wJ ?_|refine wC ?_|refine wD ?_|refine wE ?_|refine wF ?_|refine wG ?_|refine wK ?_|refine wL ?_|refine wM ?_|refine wN ?_|refine wO ?_|refine wP ?_|refine wQ ?_|refine wR ?_|refine wS ?_|refine wT ?_|refine wU ?_|refine wV ?_|refine wW ?_|refine wX ?_)
        refine ⟨q, rfl, rfl, by dsimp only; exact (by repeat (first | exact Wk.jk | refine Wk.up rfl ?_)), ?_⟩
        exact ⟨eq, by omega, by omega⟩
    · rw [scanUp_step, if_neg (by simp; omega)] at eq
      repeat' (first|refine wA ?_|refine wB ?_|refine wH ?_|refine wI ?_|refine wJ ?_|refine wC ?_|refine wD ?_|refine wE ?_|refine wF ?_|refine wG ?_|refine wK ?_|refine wL ?_|refine wM ?_|refine wN ?_|refine wO ?_|refine wP ?_|refine wQ ?_|refine wR ?_|refine wS ?_|refine wT ?_|refine wU ?_|refine wV ?_|refine wW ?_|refine wX ?_)
      refine ⟨q, rfl, rfl, by dsimp only; exact (by repeat (first | exact Wk.jk | refine Wk.up rfl ?_)), ?_⟩
      exact ⟨eq, by omega, by omega⟩
  · rintro i1 ⟨ei1, i11, i12⟩
    repeat' (first|refine wA ?_|refine wB ?_|refine wH ?_|refine wI ?_|refine wJ ?_|refine wC ?_|refine wD ?_|refine wE ?_|refine wF ?_|refine wG ?_|refine wK ?_|refine wL ?_|refine wM ?_|refine wN ?_|refine wO ?_|refine wP ?_|refine wQ ?_|refine wR ?_|refine wS ?_|refine wT ?_|refine wU ?_|refine wV ?_|refine wW ?_|refine wX ?_)
    refine Run.joinB (β := Nat) (fun y => up (up (up (up (up jk 0 v) 1 (.int .i64 (a : Int))) 4 (.func (.func g) #[] #[])) 12 (.int .i64 ((i1 : Nat) : Int))) 13 (.int .i64 ((y : Nat) : Int))) (fun _ => H1) (fun y => y = scanDown (fun x => !ltc cf x d1[a]!) d1 i1 (b - 1) ∧ y ≤ (b - 1) ∧ i1 ≤ y + 1) ?_ ?_
    · refine Run.loopW (fun (x : Nat) => x) (fun x => up (up (up (up (up jk 0 v) 1 (.int .i64 (a : Int))) 4 (.func (.func g) #[] #[])) 12 (.int .i64 ((i1 : Nat) : Int))) 13 (.int .i64 ((x : Nat) : Int))) (fun _ => H1) (fun x => x ≤ (b - 1) ∧ i1 ≤ x + 1 ∧ scanDown (fun x => !ltc cf x d1[a]!) d1 i1 x = scanDown (fun x => !ltc cf x d1[a]!) d1 i1 (b - 1)) ((b - 1)) rfl (by repeat (first | exact Wk.jk | refine Wk.up rfl ?_)) ⟨by omega, by omega, rfl⟩ ?_
      rintro q ⟨hq1, hq2, eq⟩
      repeat' (first|refine wA ?_|refine wB ?_|refine wH ?_|refine wI ?_|refine wJ ?_|refine wC ?_|refine wD ?_|refine wE ?_|refine wF ?_|refine wG ?_|refine wK ?_|refine wL ?_|refine wM ?_|refine wN ?_|refine wO ?_|refine wP ?_|refine wQ ?_|refine wR ?_|refine wS ?_|refine wT ?_|refine wU ?_|refine wV ?_|refine wW ?_|refine wX ?_)
      refine Run.draw [0, 1, 2, 3, 4, 5, 6, 7, 8, 9, 10, 11, 12, 13, 14, 15, 16] Try.checked.mixed (by kernel_rfl) ?_
      repeat' (first|refine wA ?_|refine wB ?_|refine wH ?_|refine wI ?_|refine wJ ?_|refine wC ?_|refine wD ?_|refine wE ?_|refine wF ?_|refine wG ?_|refine wK ?_|refine wL ?_|refine wM ?_|refine wN ?_|refine wO ?_|refine wP ?_|refine wQ ?_|refine wR ?_|refine wS ?_|refine wT ?_|refine wU ?_|refine wV ?_|refine wW ?_|refine wX ?_)
      refine Ops.cmp rfl rfl rfl (fun hs1 => ?_) (fun hs1 => ?_)
      · obtain ⟨q, rfl⟩ : ∃ y, q = y + 1 := ⟨q - 1, by omega⟩
        rw [scanDown_succ] at eq
        repeat' (first|refine wA ?_|refine wB ?_|refine wH ?_|refine wI ?_|refine wJ ?_|refine wC ?_|refine wD ?_|refine wE ?_|refine wF ?_|refine wG ?_|refine wK ?_|refine wL ?_|refine wM ?_|refine wN ?_|refine wO ?_|refine wP ?_|refine wQ ?_|refine wR ?_|refine wS ?_|refine wT ?_|refine wU ?_|refine wV ?_|refine wW ?_|refine wX ?_)
        refine Ops.unS rfl rfl rfl ?_
        refine Ops.rdS ((q + 1)) h1 rfl rfl rfl rfl (by omega) (by kernel_rfl) (by kernel_rfl) fun pz u1 ok1 cu1 => ?_
        repeat' (first|refine wA ?_|refine wB ?_|refine wH ?_|refine wI ?_|refine wJ ?_|refine wC ?_|refine wD ?_|refine wE ?_|refine wF ?_|refine wG ?_|refine wK ?_|refine wL ?_|refine wM ?_|refine wN ?_|refine wO ?_|refine wP ?_|refine wQ ?_|refine wR ?_|refine wS ?_|refine wT ?_|refine wU ?_|refine wV ?_|refine wW ?_|refine wX ?_)
        refine Ops.unS rfl rfl rfl ?_
        refine Ops.rdS (a) h1 rfl rfl rfl rfl (by omega) (by kernel_rfl) (by kernel_rfl) fun pz u2 ok2 cu2 => ?_
        repeat' (first|refine wA ?_|refine wB ?_|refine wH ?_|refine wI ?_|refine wJ ?_|refine wC ?_|refine wD ?_|refine wE ?_|refine wF ?_|refine wG ?_|refine wK ?_|refine wL ?_|refine wM ?_|refine wN ?_|refine wO ?_|refine wP ?_|refine wQ ?_|refine wR ?_|refine wS ?_|refine wT ?_|refine wU ?_|refine wV ?_|refine wW ?_|refine wX ?_)
        refine Ops.callVE rfl (hcmp _ _ _ _ _ ok1 ok2) ?_
        repeat' (first|refine wA ?_|refine wB ?_|refine wH ?_|refine wI ?_|refine wJ ?_|refine wC ?_|refine wD ?_|refine wE ?_|refine wF ?_|refine wG ?_|refine wK ?_|refine wL ?_|refine wM ?_|refine wN ?_|refine wO ?_|refine wP ?_|refine wQ ?_|refine wR ?_|refine wS ?_|refine wT ?_|refine wU ?_|refine wV ?_|refine wW ?_|refine wX ?_)
        refine Ops.cmp rfl rfl rfl (fun hs2 => ?_) (fun hs2 => ?_)
        · rw [if_neg (by simp [ltc, hs2])] at eq
          repeat' (first|refine wA ?_|refine wB ?_|refine wH ?_|refine wI ?_|refine wJ ?_|refine wC ?_|refine wD ?_|refine wE ?_|refine wF ?_|refine wG ?_|refine wK ?_|refine wL ?_|refine wM ?_|refine wN ?_|refine wO ?_|refine wP ?_|refine wQ ?_|refine wR ?_|refine wS ?_|refine wT ?_|refine wU ?_|refine wV ?_|refine wW ?_|refine wX ?_)
          refine ⟨(q + 1), rfl, rfl, by dsimp only; exact (by repeat (first | exact Wk.jk | refine Wk.up rfl ?_)), ?_⟩
          exact ⟨eq, by omega, by omega⟩
        · rw [if_pos (by simp [ltc, hs2]; omega)] at eq
          repeat' (first|refine wA ?_|refine wB ?_|refine wH ?_|refine wI ?_|refine wJ ?_|refine wC ?_|refine wD ?_|refine wE ?_|refine wF ?_|refine wG ?_|refine wK ?_|refine wL ?_|refine wM ?_|refine wN ?_|refine wO ?_|refine wP ?_|refine wQ ?_|refine wR ?_|refine wS ?_|refine wT ?_|refine wU ?_|refine wV ?_|refine wW ?_|refine wX ?_)
          have e9 : ((q + 1 : Nat) : Int) - 1 = (q : Int) := by omega
          rw [e9]
          refine ⟨q, by dsimp only; omega, rfl, rfl, by dsimp only; exact (by repeat (first | exact Wk.jk | refine Wk.up rfl ?_)), ?_⟩
          exact ⟨by omega, by omega, eq⟩
      · rw [scanDown_stop (by omega)] at eq
        repeat' (first|refine wA ?_|refine wB ?_|refine wH ?_|refine wI ?_|refine wJ ?_|refine wC ?_|refine wD ?_|refine wE ?_|refine wF ?_|refine wG ?_|refine wK ?_|refine wL ?_|refine wM ?_|refine wN ?_|refine wO ?_|refine wP ?_|refine wQ ?_|refine wR ?_|refine wS ?_|refine wT ?_|refine wU ?_|refine wV ?_|refine wW ?_|refine wX ?_)
        refine ⟨q, rfl, rfl, by dsimp only; exact (by repeat (first | exact Wk.jk | refine Wk.up rfl ?_)), ?_⟩
        exact ⟨eq, by omega, by omega⟩
    · rintro j1 ⟨ej1, j11, j12⟩
      have hL := partLoop_eq (ltc cf) a (a + 1) (b - 1) d1
      rw [← ei1, ← ej1] at hL
      repeat' (first|refine wA ?_|refine wB ?_|refine wH ?_|refine wI ?_|refine wJ ?_|refine wC ?_|refine wD ?_|refine wE ?_|refine wF ?_|refine wG ?_|refine wK ?_|refine wL ?_|refine wM ?_|refine wN ?_|refine wO ?_|refine wP ?_|refine wQ ?_|refine wR ?_|refine wS ?_|refine wT ?_|refine wU ?_|refine wV ?_|refine wW ?_|refine wX ?_)
      refine Ops.cmp rfl rfl rfl (fun hc1 => ?_) (fun hc1 => ?_)
      · repeat' (first|refine wA ?_|refine wB ?_|refine wH ?_|refine wI ?_|refine wJ ?_|refine wC ?_|refine wD ?_|refine wE ?_|refine wF ?_|refine wG ?_|refine wK ?_|refine wL ?_|refine wM ?_|refine wN ?_|refine wO ?_|refine wP ?_|refine wQ ?_|refine wR ?_|refine wS ?_|refine wT ?_|refine wU ?_|refine wV ?_|refine wW ?_|refine wX ?_)
        refine Run.draw [0, 1, 2, 3, 4, 5, 6, 7, 8, 9, 10, 11, 12, 13, 14, 15] Try.checked.mixed (by kernel_rfl) ?_
        repeat' (first|refine wA ?_|refine wB ?_|refine wH ?_|refine wI ?_|refine wJ ?_|refine wC ?_|refine wD ?_|refine wE ?_|refine wF ?_|refine wG ?_|refine wK ?_|refine wL ?_|refine wM ?_|refine wN ?_|refine wO ?_|refine wP ?_|refine wQ ?_|refine wR ?_|refine wS ?_|refine wT ?_|refine wU ?_|refine wV ?_|refine wW ?_|refine wX ?_)
        refine Ops.rdS (a) h1 rfl rfl rfl rfl (by omega) (by kernel_rfl) (by kernel_rfl) fun pz u3 ok3 cu3 => ?_
        repeat' (first|refine wA ?_|refine wB ?_|refine wH ?_|refine wI ?_|refine wJ ?_|refine wC ?_|refine wD ?_|refine wE ?_|refine wF ?_|refine wG ?_|refine wK ?_|refine wL ?_|refine wM ?_|refine wN ?_|refine wO ?_|refine wP ?_|refine wQ ?_|refine wR ?_|refine wS ?_|refine wT ?_|refine wU ?_|refine wV ?_|refine wW ?_|refine wX ?_)
        refine Ops.rdS (j1) h1 rfl rfl rfl rfl (by omega) (by kernel_rfl) (by kernel_rfl) fun pz u4 ok4 cu4 => ?_
        refine Ops.swS (j1) (a) h1 rfl rfl rfl rfl rfl rfl rfl (by omega) (by omega) rfl rfl ok3 ok4 cu3 cu4 (by simp) (by simp) (by simp) (by simp) (by simp) (by kernel_rfl) (by kernel_rfl) (by kernel_rfl) fun pz qz H2 h2 t2 => ?_
        repeat' (first|refine wA ?_|refine wB ?_|refine wH ?_|refine wI ?_|refine wJ ?_|refine wC ?_|refine wD ?_|refine wE ?_|refine wF ?_|refine wG ?_|refine wK ?_|refine wL ?_|refine wM ?_|refine wN ?_|refine wO ?_|refine wP ?_|refine wQ ?_|refine wR ?_|refine wS ?_|refine wT ?_|refine wU ?_|refine wV ?_|refine wW ?_|refine wX ?_)
        refine Run.ret ⟨.inl rfl, ResK.tmp rfl (by conv => lhs; whnf) (ResK.tmp rfl (by conv => lhs; whnf) (ResK.nil ?_))⟩
        refine ⟨⟨true, ?_⟩, ?_, t1.trans t2⟩
        · rw [hL, if_pos (by omega)]; rfl
        · rw [hL, if_pos (by omega)]; exact h2
      · repeat' (first|refine wA ?_|refine wB ?_|refine wH ?_|refine wI ?_|refine wJ ?_|refine wC ?_|refine wD ?_|refine wE ?_|refine wF ?_|refine wG ?_|refine wK ?_|refine wL ?_|refine wM ?_|refine wN ?_|refine wO ?_|refine wP ?_|refine wQ ?_|refine wR ?_|refine wS ?_|refine wT ?_|refine wU ?_|refine wV ?_|refine wW ?_|refine wX ?_)
        have hne := scan_ne ei1 ej1 (fun x => by simp) (by omega) (by omega) (by omega)
        refine Run.draw [0, 1, 2, 3, 4, 5, 6, 7, 8, 9, 10, 11, 12, 13, 14, 15] Try.checked.mixed (by kernel_rfl) ?_
        repeat' (first|refine wA ?_|refine wB ?_|refine wH ?_|refine wI ?_|refine wJ ?_|refine wC ?_|refine wD ?_|refine wE ?_|refine wF ?_|refine wG ?_|refine wK ?_|refine wL ?_|refine wM ?_|refine wN ?_|refine wO ?_|refine wP ?_|refine wQ ?_|refine wR ?_|refine wS ?_|refine wT ?_|refine wU ?_|refine wV ?_|refine wW ?_|refine wX ?_)
        refine Ops.rdS (j1) h1 rfl rfl rfl rfl (by omega) (by kernel_rfl) (by kernel_rfl) fun pz u3 ok3 cu3 => ?_
        repeat' (first|refine wA ?_|refine wB ?_|refine wH ?_|refine wI ?_|refine wJ ?_|refine wC ?_|refine wD ?_|refine wE ?_|refine wF ?_|refine wG ?_|refine wK ?_|refine wL ?_|refine wM ?_|refine wN ?_|refine wO ?_|refine wP ?_|refine wQ ?_|refine wR ?_|refine wS ?_|refine wT ?_|refine wU ?_|refine wV ?_|refine wW ?_|refine wX ?_)
        refine Ops.rdS (i1) h1 rfl rfl rfl rfl (by omega) (by kernel_rfl) (by kernel_rfl) fun pz u4 ok4 cu4 => ?_
        refine Ops.swS (i1) (j1) h1 rfl rfl rfl rfl rfl rfl rfl (by omega) (by omega) rfl rfl ok3 ok4 cu3 cu4 (by simp) (by simp) (by simp) (by simp) (by simp) (by kernel_rfl) (by kernel_rfl) (by kernel_rfl) fun pz qz H2 h2 t2 => ?_
        repeat' (first|refine wA ?_|refine wB ?_|refine wH ?_|refine wI ?_|refine wJ ?_|refine wC ?_|refine wD ?_|refine wE ?_|refine wF ?_|refine wG ?_|refine wK ?_|refine wL ?_|refine wM ?_|refine wN ?_|refine wO ?_|refine wP ?_|refine wQ ?_|refine wR ?_|refine wS ?_|refine wT ?_|refine wU ?_|refine wV ?_|refine wW ?_|refine wX ?_)
        have e8 : (j1 : Int) - 1 = ((j1 - 1 : Nat) : Int) := by omega
        rw [e8]
        refine Run.joinB (β := Nat × Nat × Hp × Array LF) (fun y => up (up (up (up (up jk 0 v) 1 (.int .i64 (a : Int))) 4 (.func (.func g) #[] #[])) 12 (.int .i64 ((y.1 : Nat) : Int))) 13 (.int .i64 ((y.2.1 : Nat) : Int))) (fun y => y.2.2.1) (fun y => a ≤ y.2.1 ∧ y.2.1 < b ∧ SR (elF 3) 24 k r y.2.2.1 v y.2.2.2 ∧ Tr r H y.2.2.1 ∧ y.2.2.2.size = d.size ∧ (y.2.1, y.2.2.2) = partLoop (ltc cf) a (a + 1) (b - 1) d1) ?_ ?_
        · refine Run.loopW (fun (x : Nat × Nat × Hp × Array LF) => x.2.1 + 1 - x.1) (fun x => up (up (up (up (up jk 0 v) 1 (.int .i64 (a : Int))) 4 (.func (.func g) #[] #[])) 12 (.int .i64 ((x.1 : Nat) : Int))) 13 (.int .i64 ((x.2.1 : Nat) : Int))) (fun x => x.2.2.1) (fun x => a < x.1 ∧ x.1 ≤ x.2.1 + 1 ∧ x.2.1 < b ∧ SR (elF 3) 24 k r x.2.2.1 v x.2.2.2 ∧ Tr r H x.2.2.1 ∧ x.2.2.2.size = d.size ∧ partLoop (ltc cf) a x.1 x.2.1 x.2.2.2 = partLoop (ltc cf) a (a + 1) (b - 1) d1) (i1 + 1, j1 - 1, H2, swp d1 i1 j1) rfl (by repeat (first | exact Wk.jk | refine Wk.up rfl ?_)) ⟨by dsimp only; omega, by dsimp only; omega, by dsimp only; omega, h2, t1.trans t2, by dsimp only; rw [size_swp]; exact sz1, ?_⟩ ?_
          · dsimp only; rw [hL, if_neg (by omega)]
          rintro ⟨i3, j3, H3, d3⟩ ⟨hi3, hj3, hb3, h3, t3, sz3, e3⟩
          dsimp only at hi3 hj3 hb3 h3 t3 sz3 e3
          dsimp only
          repeat' (first|refine wA ?_|refine wB ?_|refine wH ?_|refine wI ?_|refine wJ ?_|refine wC ?_|refine wD ?_|refine wE ?_|refine wF ?_|refine wG ?_|refine wK ?_|refine wL ?_|refine wM ?_|refine wN ?_|refine wO ?_|refine wP ?_|refine wQ ?_|refine wR ?_|refine wS ?_|refine wT ?_|refine wU ?_|refine wV ?_|refine wW ?_|refine wX ?_)
          refine Run.joinB (β := Nat) (fun y => up (up (up (up (up jk 0 v) 1 (.int .i64 (a : Int))) 4 (.func (.func g) #[] #[])) 12 (.int .i64 ((y : Nat) : Int))) 13 (.int .i64 ((j3 : Nat) : Int))) (fun _ => H3) (fun y => y = scanUp (fun x => ltc cf x d3[a]!) d3 j3 i3 ∧ i3 ≤ y ∧ y ≤ j3 + 1) ?_ ?_
          · refine Run.loopW (fun (x : Nat) => j3 + 1 - x) (fun x => up (up (up (up (up jk 0 v) 1 (.int .i64 (a : Int))) 4 (.func (.func g) #[] #[])) 12 (.int .i64 ((x : Nat) : Int))) 13 (.int .i64 ((j3 : Nat) : Int))) (fun _ => H3) (fun x => i3 ≤ x ∧ x ≤ j3 + 1 ∧ scanUp (fun x => ltc cf x d3[a]!) d3 j3 x = scanUp (fun x => ltc cf x d3[a]!) d3 j3 i3) (i3) rfl (by repeat (first | exact Wk.jk | refine Wk.up rfl ?_)) ⟨by omega, by omega, rfl⟩ ?_
            rintro q ⟨hq1, hq2, eq⟩
            repeat' (first|refine wA ?_|refine wB ?_|refine wH ?_|refine wI ?_|refine wJ ?_|refine wC ?_|refine wD ?_|refine wE ?_|refine wF ?_|refine wG ?_|refine wK ?_|refine wL ?_|refine wM ?_|refine wN ?_|refine wO ?_|refine wP ?_|refine wQ ?_|refine wR ?_|refine wS ?_|refine wT ?_|refine wU ?_|refine wV ?_|refine wW ?_|refine wX ?_)
            refine Run.draw [0, 1, 2, 3, 4, 5, 6, 7, 8, 9, 10, 11, 12, 13, 14, 15] Try.checked.mixed (by kernel_rfl) ?_
            repeat' (first|refine wA ?_|refine wB ?_|refine wH ?_|refine wI ?_|refine wJ ?_|refine wC ?_|refine wD ?_|refine wE ?_|refine wF ?_|refine wG ?_|refine wK ?_|refine wL ?_|refine wM ?_|refine wN ?_|refine wO ?_|refine wP ?_|refine wQ ?_|refine wR ?_|refine wS ?_|refine wT ?_|refine wU ?_|refine wV ?_|refine wW ?_|refine wX ?_)
            refine Ops.cmp rfl rfl rfl (fun hs1 => ?_) (fun hs1 => ?_)
            · rw [scanUp_step] at eq
              repeat' (first|refine wA ?_|refine wB ?_|refine wH ?_|refine wI ?_|refine wJ ?_|refine wC ?_|refine wD ?_|refine wE ?_|refine wF ?_|refine wG ?_|refine wK ?_|refine wL ?_|refine wM ?_|refine wN ?_|refine wO ?_|refine wP ?_|refine wQ ?_|refine wR ?_|refine wS ?_|refine wT ?_|refine wU ?_|refine wV ?_|refine wW ?_|refine wX ?_)
              refine Ops.unS rfl rfl rfl ?_
              refine Ops.rdS (q) h3 rfl rfl rfl rfl (by omega) (by kernel_rfl) (by kernel_rfl) fun pz u1 ok1 cu1 => ?_
              repeat' (first|refine wA ?_|refine wB ?_|refine wH ?_|refine wI ?_|refine wJ ?_|refine wC ?_|refine wD ?_|refine wE ?_|refine wF ?_|refine wG ?_|refine wK ?_|refine wL ?_|refine wM ?_|refine wN ?_|refine wO ?_|refine wP ?_|refine wQ ?_|refine wR ?_|refine wS ?_|refine wT ?_|refine wU ?_|refine wV ?_|refine wW ?_|refine wX ?_)
              refine Ops.unS rfl rfl rfl ?_
              refine Ops.rdS (a) h3 rfl rfl rfl rfl (by omega) (by kernel_rfl) (by kernel_rfl) fun pz u2 ok2 cu2 => ?_
              repeat' (first|refine wA ?_|refine wB ?_|refine wH ?_|refine wI ?_|refine wJ ?_|refine wC ?_|refine wD ?_|refine wE ?_|refine wF ?_|refine wG ?_|refine wK ?_|refine wL ?_|refine wM ?_|refine wN ?_|refine wO ?_|refine wP ?_|refine wQ ?_|refine wR ?_|refine wS ?_|refine wT ?_|refine wU ?_|refine wV ?_|refine wW ?_|refine wX ?_)
              refine Ops.callVE rfl (hcmp _ _ _ _ _ ok1 ok2) ?_
              repeat' (first|refine wA ?_|refine wB ?_|refine wH ?_|refine wI ?_|refine wJ ?_|refine wC ?_|refine wD ?_|refine wE ?_|refine wF ?_|refine wG ?_|refine wK ?_|refine wL ?_|refine wM ?_|refine wN ?_|refine wO ?_|refine wP ?_|refine wQ ?_|refine wR ?_|refine wS ?_|refine wT ?_|refine wU ?_|refine wV ?_|refine wW ?_|refine wX ?_)
              refine Ops.cmp rfl rfl rfl (fun hs2 => ?_) (fun hs2 => ?_)
              · rw [if_pos (by simp [ltc, hs2]; omega)] at eq
                repeat' (first|refine wA ?_|refine wB ?_|refine wH ?_|refine wI ?_|refine wJ ?_|refine wC ?_|refine wD ?_|refine wE ?_|refine wF ?_|refine wG ?_|refine wK ?_|refine wL ?_|refine wM ?_|refine wN ?_|refine wO ?_|refine wP ?_|refine wQ ?_|refine wR ?_|refine wS ?_|refine wT ?_|refine wU ?_|refine wV ?_|refine wW ?_|refine wX ?_)
                refine ⟨q + 1, by dsimp only; omega, rfl, rfl, by dsimp only; exact (by repeat (first | exact Wk.jk | refine Wk.up rfl ?_)), ?_⟩
                exact ⟨by omega, by omega, eq⟩
              · rw [if_neg (by simp [ltc, hs2])] at eq
                repeat' (first|refine wA ?_|refine wB ?_|refine wH ?_|refine wI ?_|refine wJ ?_|refine wC ?_|refine wD ?_|refine wE ?_|refine wF ?_|refine wG ?_|refine wK ?_|refine wL ?_|refine wM ?_|refine wN ?_|refine wO ?_|refine wP ?_|refine wQ ?_|refine wR ?_|refine wS ?_|refine wT ?_|refine wU ?_|refine wV ?_|refine wW ?_|refine wX ?_)
                refine ⟨q, rfl, rfl, by dsimp only; exact (by repeat (first | exact Wk.jk | refine Wk.up rfl ?_)), ?_⟩
                exact ⟨eq, by omega, by omega⟩
            · rw [scanUp_step, if_neg (by simp; omega)] at eq
              repeat' (first|refine wA ?_|refine wB ?_|refine wH ?_|refine wI ?_|refine wJ ?_|refine wC ?_|refine wD ?_|refine wE ?_|refine wF ?_|refine wG ?_|refine wK ?_|refine wL ?_|refine wM ?_|refine wN ?_|refine wO ?_|refine wP ?_|refine wQ ?_|refine wR ?_|refine wS ?_|refine wT ?_|refine wU ?_|refine wV ?_|refine wW ?_|refine wX ?_)
              refine ⟨q, rfl, rfl, by dsimp only; exact (by repeat (first | exact Wk.jk | refine Wk.up rfl ?_)), ?_⟩
              exact ⟨eq, by omega, by omega⟩
          · rintro i4 ⟨ei4, i41, i42⟩
            repeat' (first|refine wA ?_|refine wB ?_|refine wH ?_|refine wI ?_|refine wJ ?_|refine wC ?_|refine wD ?_|refine wE ?_|refine wF ?_|refine wG ?_|refine wK ?_|refine wL ?_|refine wM ?_|refine wN ?_|refine wO ?_|refine wP ?_|refine wQ ?_|refine wR ?_|refine wS ?_|refine wT ?_|refine wU ?_|refine wV ?_|refine wW ?_|refine wX ?_)
            refine Run.joinB (β := Nat) (fun y => up (up (up (up (up jk 0 v) 1 (.int .i64 (a : Int))) 4 (.func (.func g) #[] #[])) 12 (.int .i64 ((i4 : Nat) : Int))) 13 (.int .i64 ((y : Nat) : Int))) (fun _ => H3) (fun y => y = scanDown (fun x => !ltc cf x d3[a]!) d3 i4 j3 ∧ y ≤ j3 ∧ i4 ≤ y + 1) ?_ ?_
            · refine Run.loopW (fun (x : Nat) => x) (fun x => up (up (up (up (up jk 0 v) 1 (.int .i64 (a : Int))) 4 (.func (.func g) #[] #[])) 12 (.int .i64 ((i4 : Nat) : Int))) 13 (.int .i64 ((x : Nat) : Int))) (fun _ => H3) (fun x => x ≤ j3 ∧ i4 ≤ x + 1 ∧ scanDown (fun x => !ltc cf x d3[a]!) d3 i4 x = scanDown (fun x => !ltc cf x d3[a]!) d3 i4 j3) (j3) rfl (by repeat (first | exact Wk.jk | refine Wk.up rfl ?_)) ⟨by omega, by omega, rfl⟩ ?_
              rintro q ⟨hq1, hq2, eq⟩
              repeat' (first|refine wA ?_|refine wB ?_|refine wH ?_|refine wI ?_|refine wJ ?_|refine wC ?_|refine wD ?_|refine wE ?_|refine wF ?_|refine wG ?_|refine wK ?_|refine wL ?_|refine wM ?_|refine wN ?_|refine wO ?_|refine wP ?_|refine wQ ?_|refine wR ?_|refine wS ?_|refine wT ?_|refine wU ?_|refine wV ?_|refine wW ?_|refine wX ?_)
              refine Run.draw [0, 1, 2, 3, 4, 5, 6, 7, 8, 9, 10, 11, 12, 13, 14, 15, 16] Try.checked.mixed (by kernel_rfl) ?_
              repeat' (first|refine wA ?_|refine wB ?_|refine wH ?_|refine wI ?_|refine wJ ?_|refine wC ?_|refine wD ?_|refine wE ?_|refine wF ?_|refine wG ?_|refine wK ?_|refine wL ?_|refine wM ?_|refine wN ?_|refine wO ?_|refine wP ?_|refine wQ ?_|refine wR ?_|refine wS ?_|refine wT ?_|refine wU ?_|refine wV ?_|refine wW ?_|refine wX ?_)
              refine Ops.cmp rfl rfl rfl (fun hs1 => ?_) (fun hs1 => ?_)
              · obtain ⟨q, rfl⟩ : ∃ y, q = y + 1 := ⟨q - 1, by omega⟩
                rw [scanDown_succ] at eq
                repeat' (first|refine wA ?_|refine wB ?_|refine wH ?_|refine wI ?_|refine wJ ?_|refine wC ?_|refine wD ?_|refine wE ?_|refine wF ?_|refine wG ?_|refine wK ?_|refine wL ?_|refine wM ?_|refine wN ?_|refine wO ?_|refine wP ?_|refine wQ ?_|refine wR ?_|refine wS ?_|refine wT ?_|refine wU ?_|refine wV ?_|refine wW ?_|refine wX ?_)
                refine Ops.unS rfl rfl rfl ?_
                refine Ops.rdS ((q + 1)) h3 rfl rfl rfl rfl (by omega) (by kernel_rfl) (by kernel_rfl) fun pz u1 ok1 cu1 => ?_
                repeat' (first|refine wA ?_|refine wB ?_|refine wH ?_|refine wI ?_|refine wJ ?_|refine wC ?_|refine wD ?_|refine wE ?_|refine wF ?_|refine wG ?_|refine wK ?_|refine wL ?_|refine wM ?_|refine wN ?_|refine wO ?_|refine wP ?_|refine wQ ?_|refine wR ?_|refine wS ?_|refine wT ?_|refine wU ?_|refine wV ?_|refine wW ?_|refine wX ?_)
                refine Ops.unS rfl rfl rfl ?_
                refine Ops.rdS (a) h3 rfl rfl rfl rfl (by omega) (by kernel_rfl) (by kernel_rfl) fun pz u2 ok2 cu2 => ?_
                repeat' (first|refine wA ?_|refine wB ?_|refine wH ?_|refine wI ?_|refine wJ ?_|refine wC ?_|refine wD ?_|refine wE ?_|refine wF ?_|refine wG ?_|refine wK ?_|refine wL ?_|refine wM ?_|refine wN ?_|refine wO ?_|refine wP ?_|refine wQ ?_|refine wR ?_|refine wS ?_|refine wT ?_|refine wU ?_|refine wV ?_|refine wW ?_|refine wX ?_)
                refine Ops.callVE rfl (hcmp _ _ _ _ _ ok1 ok2) ?_
                repeat' (first|refine wA ?_|refine wB ?_|refine wH ?_|refine wI ?_|refine wJ ?_|refine wC ?_|refine wD ?_|refine wE ?_|refine wF ?_|refine wG ?_|refine wK ?_|refine wL ?_|refine wM ?_|refine wN ?_|refine wO ?_|refine wP ?_|refine wQ ?_|refine wR ?_|refine wS ?_|refine wT ?_|refine wU ?_|refine wV ?_|refine wW ?_|refine wX ?_)
                refine Ops.cmp rfl rfl rfl (fun hs2 => ?_) (fun hs2 => ?_)
                · rw [if_neg (by simp [ltc, hs2])] at eq
                  repeat' (first|refine wA ?_|refine wB ?_|refine wH ?_|refine wI ?_|refine wJ ?_|refine wC ?_|refine wD ?_|refine wE ?_|refine wF ?_|refine wG ?_|refine wK ?_|refine wL ?_|refine wM ?_|refine wN ?_|refine wO ?_|refine wP ?_|refine wQ ?_|refine wR ?_|refine wS ?_|refine wT ?_|refine wU ?_|refine wV ?_|refine wW ?_|refine wX ?_)
                  refine ⟨(q + 1), rfl, rfl, by dsimp only; exact (by repeat (first | exact Wk.jk | refine Wk.up rfl ?_)), ?_⟩
                  exact ⟨eq, by omega, by omega⟩
                · rw [if_pos (by simp [ltc, hs2]; omega)] at eq
                  repeat' (first|refine wA ?_|refine wB ?_|refine wH ?_|refine wI ?_|refine wJ ?_|refine wC ?_|refine wD ?_|refine wE ?_|refine wF ?_|refine wG ?_|refine wK ?_|refine wL ?_|refine wM ?_|refine wN ?_|refine wO ?_|refine wP ?_|refine wQ ?_|refine wR ?_|refine wS ?_|refine wT ?_|refine wU ?_|refine wV ?_|refine wW ?_|refine wX ?_)
                  have e9 : ((q + 1 : Nat) : Int) - 1 = (q : Int) := by omega
                  rw [e9]
                  refine ⟨q, by dsimp only; omega, rfl, rfl, by dsimp only; exact (by repeat (first | exact Wk.jk | refine Wk.up rfl ?_)), ?_⟩
                  exact ⟨by omega, by omega, eq⟩
              · rw [scanDown_stop (by omega)] at eq
                repeat' (first|refine wA ?_|refine wB ?_|refine wH ?_|refine wI ?_|refine wJ ?_|refine wC ?_|refine wD ?_|refine wE ?_|refine wF ?_|refine wG ?_|refine wK ?_|refine wL ?_|refine wM ?_|refine wN ?_|refine wO ?_|refine wP ?_|refine wQ ?_|refine wR ?_|refine wS ?_|refine wT ?_|refine wU ?_|refine wV ?_|refine wW ?_|refine wX ?_)
                refine ⟨q, rfl, rfl, by dsimp only; exact (by repeat (first | exact Wk.jk | refine Wk.up rfl ?_)), ?_⟩
                exact ⟨eq, by omega, by omega⟩
            · rintro j4 ⟨ej4, j41, j42⟩
              repeat' (first|refine wA ?_|refine wB ?_|refine wH ?_|refine wI ?_|refine wJ ?_|refine wC ?_|refine wD ?_|refine wE ?_|refine wF ?_|refine wG ?_|refine wK ?_|refine wL ?_|refine wM ?_|refine wN ?_|refine wO ?_|refine wP ?_|refine wQ ?_|refine wR ?_|refine wS ?_|refine wT ?_|refine wU ?_|refine wV ?_|refine wW ?_|refine wX ?_)
              refine Ops.cmp rfl rfl rfl (fun hc2 => ?_) (fun hc2 => ?_)
              · repeat' (first|refine wA ?_|refine wB ?_|refine wH ?_|refine wI ?_|refine wJ ?_|refine wC ?_|refine wD ?_|refine wE ?_|refine wF ?_|refine wG ?_|refine wK ?_|refine wL ?_|refine wM ?_|refine wN ?_|refine wO ?_|refine wP ?_|refine wQ ?_|refine wR ?_|refine wS ?_|refine wT ?_|refine wU ?_|refine wV ?_|refine wW ?_|refine wX ?_)
                refine ⟨(i4, j4, H3, d3), rfl, rfl, by dsimp only; exact (by repeat (first | exact Wk.jk | refine Wk.up rfl ?_)), ?_⟩
                refine ⟨by dsimp only; omega, by dsimp only; omega, h3, t3, sz3, ?_⟩
                dsimp only
                rw [partLoop_eq, ← ei4, ← ej4, if_pos (by omega)] at e3
                exact e3
              · repeat' (first|refine wA ?_|refine wB ?_|refine wH ?_|refine wI ?_|refine wJ ?_|refine wC ?_|refine wD ?_|refine wE ?_|refine wF ?_|refine wG ?_|refine wK ?_|refine wL ?_|refine wM ?_|refine wN ?_|refine wO ?_|refine wP ?_|refine wQ ?_|refine wR ?_|refine wS ?_|refine wT ?_|refine wU ?_|refine wV ?_|refine wW ?_|refine wX ?_)
                have hne := scan_ne ei4 ej4 (fun x => by simp) (by omega) (by omega) (by omega)
                refine Run.draw [0, 1, 2, 3, 4, 5, 6, 7, 8, 9, 10, 11, 12, 13, 14, 15] Try.checked.mixed (by kernel_rfl) ?_
                repeat' (first|refine wA ?_|refine wB ?_|refine wH ?_|refine wI ?_|refine wJ ?_|refine wC ?_|refine wD ?_|refine wE ?_|refine wF ?_|refine wG ?_|refine wK ?_|refine wL ?_|refine wM ?_|refine wN ?_|refine wO ?_|refine wP ?_|refine wQ ?_|refine wR ?_|refine wS ?_|refine wT ?_|refine wU ?_|refine wV ?_|refine wW ?_|refine wX ?_)
                refine Ops.rdS (j4) h3 rfl rfl rfl rfl (by omega) (by kernel_rfl) (by kernel_rfl) fun pz u3 ok3 cu3 => ?_
                repeat' (first|refine wA ?_|refine wB ?_|refine wH ?_|refine wI ?_|refine wJ ?_|refine wC ?_|refine wD ?_|refine wE ?_|refine wF ?_|refine wG ?_|refine wK ?_|refine wL ?_|refine wM ?_|refine wN ?_|refine wO ?_|refine wP ?_|refine wQ ?_|refine wR ?_|refine wS ?_|refine wT ?_|refine wU ?_|refine wV ?_|refine wW ?_|refine wX ?_)
                refine Ops.rdS (i4) h3 rfl rfl rfl rfl (by omega) (by kernel_rfl) (by kernel_rfl) fun pz u4 ok4 cu4 => ?_
                refine Ops.swS (i4) (j4) h3 rfl rfl rfl rfl rfl rfl rfl (by omega) (by omega) rfl rfl ok3 ok4 cu3 cu4 (by simp) (by simp) (by simp) (by simp) (by simp) (by kernel_rfl) (by kernel_rfl) (by kernel_rfl) fun pz qz H4 h4 t4 => ?_
                repeat' (first|refine wA ?_|refine wB ?_|refine wH ?_|refine wI ?_|refine wJ ?_|refine wC ?_|refine wD ?_|refine wE ?_|refine wF ?_|refine wG ?_|refine wK ?_|refine wL ?_|refine wM ?_|refine wN ?_|refine wO ?_|refine wP ?_|refine wQ ?_|refine wR ?_|refine wS ?_|refine wT ?_|refine wU ?_|refine wV ?_|refine wW ?_|refine wX ?_)
                have e8 : (j4 : Int) - 1 = ((j4 - 1 : Nat) : Int) := by omega
                rw [e8]
                refine ⟨(i4 + 1, j4 - 1, H4, swp d3 i4 j4), by dsimp only; omega, rfl, rfl, by dsimp only; exact (by repeat (first | exact Wk.jk | refine Wk.up rfl ?_)), ?_⟩
                refine ⟨by dsimp only; omega, by dsimp only; omega, by dsimp only; omega, h4, t3.trans t4, by dsimp only; rw [size_swp]; exact sz3, ?_⟩
                dsimp only
                rw [partLoop_eq, ← ei4, ← ej4, if_neg (by omega)] at e3
                exact e3
        · rintro ⟨i6, j6, H6, d6⟩ ⟨ha6, hb6, h6, t6, sz6, e6⟩
          dsimp only at ha6 hb6 h6 t6 sz6 e6
          dsimp only
          repeat' (first|refine wA ?_|refine wB ?_|refine wH ?_|refine wI ?_|refine wJ ?_|refine wC ?_|refine wD ?_|refine wE ?_|refine wF ?_|refine wG ?_|refine wK ?_|refine wL ?_|refine wM ?_|refine wN ?_|refine wO ?_|refine wP ?_|refine wQ ?_|refine wR ?_|refine wS ?_|refine wT ?_|refine wU ?_|refine wV ?_|refine wW ?_|refine wX ?_)
          refine Run.draw [0, 1, 2, 3, 4, 5, 6, 7, 8, 9, 10, 11, 12, 13, 14, 15] Try.checked.mixed (by kernel_rfl) ?_
          repeat' (first|refine wA ?_|refine wB ?_|refine wH ?_|refine wI ?_|refine wJ ?_|refine wC ?_|refine wD ?_|refine wE ?_|refine wF ?_|refine wG ?_|refine wK ?_|refine wL ?_|refine wM ?_|refine wN ?_|refine wO ?_|refine wP ?_|refine wQ ?_|refine wR ?_|refine wS ?_|refine wT ?_|refine wU ?_|refine wV ?_|refine wW ?_|refine wX ?_)
          refine Ops.rdS (a) h6 rfl rfl rfl rfl (by omega) (by kernel_rfl) (by kernel_rfl) fun pz u3 ok3 cu3 => ?_
          repeat' (first|refine wA ?_|refine wB ?_|refine wH ?_|refine wI ?_|refine wJ ?_|refine wC ?_|refine wD ?_|refine wE ?_|refine wF ?_|refine wG ?_|refine wK ?_|refine wL ?_|refine wM ?_|refine wN ?_|refine wO ?_|refine wP ?_|refine wQ ?_|refine wR ?_|refine wS ?_|refine wT ?_|refine wU ?_|refine wV ?_|refine wW ?_|refine wX ?_)
          refine Ops.rdS (j6) h6 rfl rfl rfl rfl (by omega) (by kernel_rfl) (by kernel_rfl) fun pz u4 ok4 cu4 => ?_
          refine Ops.swS (j6) (a) h6 rfl rfl rfl rfl rfl rfl rfl (by omega) (by omega) rfl rfl ok3 ok4 cu3 cu4 (by simp) (by simp) (by simp) (by simp) (by simp) (by kernel_rfl) (by kernel_rfl) (by kernel_rfl) fun pz qz H7 h7 t7 => ?_
          repeat' (first|refine wA ?_|refine wB ?_|refine wH ?_|refine wI ?_|refine wJ ?_|refine wC ?_|refine wD ?_|refine wE ?_|refine wF ?_|refine wG ?_|refine wK ?_|refine wL ?_|refine wM ?_|refine wN ?_|refine wO ?_|refine wP ?_|refine wQ ?_|refine wR ?_|refine wS ?_|refine wT ?_|refine wU ?_|refine wV ?_|refine wW ?_|refine wX ?_)
          refine Run.ret ⟨.inl rfl, ResK.tmp rfl (by conv => lhs; whnf) (ResK.tmp rfl (by conv => lhs; whnf) (ResK.nil ?_))⟩
          refine ⟨⟨false, ?_⟩, ?_, t6.trans t7⟩
          · rw [← e6]; rfl
          · rw [← e6]; exact h7

set_option maxHeartbeats 2000000 in
theorem partitionEqual_ok (h : SR (elF 3) 24 k r H v d) (hb : b ≤ d.size) (ha : a ≤ pivot) (hp : pivot < b) (hn : d.size ≤ 1099511627776) :
    CallK Try.prog 116 [v, .int .i64 (a : Int), .int .i64 (b : Int), .int .i64 (pivot : Int), .func (.func g) #[] #[]] H (fun res H' => res = .int .i64 ((partitionEqual (ltc cf) d a b pivot).1 : Int) ∧
      SR (elF 3) 24 k r H' v (partitionEqual (ltc cf) d a b pivot).2 ∧ Tr r H H') := by
  refine (CallK.enter Try.func116 rfl rfl Try.ntmps116 Try.results116 rfl ?_)
  repeat' (first|refine wA ?_|refine wB ?_|refine wH ?_|refine wI ?_|refine wJ ?_|refine wC ?_|refine wD ?_|refine wE ?_|refine wF ?_|refine wG ?_|refine wK ?_|refine wL ?_|refine wM ?_|refine wN ?_|refine wO ?_|refine wP ?_|refine wQ ?_|refine wR ?_|refine wS ?_|refine wT ?_|refine wU ?_|refine wV ?_|refine wW ?_|refine wX ?_)
  refine Run.draw [0, 1, 2, 3, 4, 5, 6, 7, 8, 9, 10, 11, 12, 13, 14, 15] Try.checked.mixed (by kernel_rfl) ?_
  repeat' (first|refine wA ?_|refine wB ?_|refine wH ?_|refine wI ?_|refine wJ ?_|refine wC ?_|refine wD ?_|refine wE ?_|refine wF ?_|refine wG ?_|refine wK ?_|refine wL ?_|refine wM ?_|refine wN ?_|refine wO ?_|refine wP ?_|refine wQ ?_|refine wR ?_|refine wS ?_|refine wT ?_|refine wU ?_|refine wV ?_|refine wW ?_|refine wX ?_)
  refine Ops.rdS (pivot) h rfl rfl rfl rfl (by omega) (by kernel_rfl) (by kernel_rfl) fun pz u3 ok3 cu3 => ?_
  repeat' (first|refine wA ?_|refine wB ?_|refine wH ?_|refine wI ?_|refine wJ ?_|refine wC ?_|refine wD ?_|refine wE ?_|refine wF ?_|refine wG ?_|refine wK ?_|refine wL ?_|refine wM ?_|refine wN ?_|refine wO ?_|refine wP ?_|refine wQ ?_|refine wR ?_|refine wS ?_|refine wT ?_|refine wU ?_|refine wV ?_|refine wW ?_|refine wX ?_)
  refine Ops.rdS (a) h rfl rfl rfl rfl (by omega) (by kernel_rfl) (by kernel_rfl) fun pz u4 ok4 cu4 => ?_
  refine Ops.swS (a) (pivot) h rfl rfl rfl rfl rfl rfl rfl (by omega) (by omega) rfl rfl ok3 ok4 cu3 cu4 (by simp) (by simp) (by simp) (by simp) (by simp) (by kernel_rfl) (by kernel_rfl) (by kernel_rfl) fun pz qz H1 h1 t1 => ?_
  obtain ⟨d1, hd1⟩ : ∃ y, y = swp d a pivot := ⟨_, rfl⟩
  rw [← hd1] at h1
  have sz1 : d1.size = d.size := by rw [hd1, size_swp]
  repeat' (first|refine wA ?_|refine wB ?_|refine wH ?_|refine wI ?_|refine wJ ?_|refine wC ?_|refine wD ?_|refine wE ?_|refine wF ?_|refine wG ?_|refine wK ?_|refine wL ?_|refine wM ?_|refine wN ?_|refine wO ?_|refine wP ?_|refine wQ ?_|refine wR ?_|refine wS ?_|refine wT ?_|refine wU ?_|refine wV ?_|refine wW ?_|refine wX ?_)
  have e7 : (b : Int) - 1 = ((b - 1 : Nat) : Int) := by omega
  have e6' : (a : Int) + 1 = ((a + 1 : Nat) : Int) := by omega
  rw [e7, e6']
  refine Run.loopW (fun (x : Nat × Nat × Hp × Array LF) => x.2.1 + 1 - x.1) (fun x => up (up (up (up (up jk 0 v) 1 (.int .i64 (a : Int))) 4 (.func (.func g) #[] #[])) 11 (.int .i64 ((x.1 : Nat) : Int))) 12 (.int .i64 ((x.2.1 : Nat) : Int))) (fun x => x.2.2.1) (fun x => a < x.1 ∧ x.1 ≤ x.2.1 + 1 ∧ x.2.1 < b ∧ SR (elF 3) 24 k r x.2.2.1 v x.2.2.2 ∧ Tr r H x.2.2.1 ∧ x.2.2.2.size = d.size ∧ partEqLoop (ltc cf) a x.1 x.2.1 x.2.2.2 = partitionEqual (ltc cf) d a b pivot) (a + 1, b - 1, H1, d1) rfl (by repeat (first | exact Wk.jk | refine Wk.up rfl ?_)) ⟨by dsimp only; omega, by dsimp only; omega, by dsimp only; omega, h1, t1, sz1, by rw [hd1]; rfl⟩ ?_
  rintro ⟨i3, j3, H3, d3⟩ ⟨hi3, hj3, hb3, h3, t3, sz3, e3⟩
  dsimp only at hi3 hj3 hb3 h3 t3 sz3 e3
  dsimp only
  repeat' (first|refine wA ?_|refine wB ?_|refine wH ?_|refine wI ?_|refine wJ ?_|refine wC ?_|refine wD ?_|refine wE ?_|refine wF ?_|refine wG ?_|refine wK ?_|refine wL ?_|refine wM ?_|refine wN ?_|refine wO ?_|refine wP ?_|refine wQ ?_|refine wR ?_|refine wS ?_|refine wT ?_|refine wU ?_|refine wV ?_|refine wW ?_|refine wX ?_)
  refine Run.joinB (β := Nat) (fun y => up (up (up (up (up jk 0 v) 1 (.int .i64 (a : Int))) 4 (.func (.func g) #[] #[])) 11 (.int .i64 ((y : Nat) : Int))) 12 (.int .i64 ((j3 : Nat) : Int))) (fun _ => H3) (fun y => y = scanUp (fun x => !ltc cf d3[a]! x) d3 j3 i3 ∧ i3 ≤ y ∧ y ≤ j3 + 1) ?_ ?_
  · refine Run.loopW (fun (x : Nat) => j3 + 1 - x) (fun x => up (up (up (up (up jk 0 v) 1 (.int .i64 (a : Int))) 4 (.func (.func g) #[] #[])) 11 (.int .i64 ((x : Nat) : Int))) 12 (.int .i64 ((j3 : Nat) : Int))) (fun _ => H3) (fun x => i3 ≤ x ∧ x ≤ j3 + 1 ∧ scanUp (fun x => !ltc cf d3[a]! x) d3 j3 x = scanUp (fun x => !ltc cf d3[a]! x) d3 j3 i3) (i3) rfl (by repeat (first | exact Wk.jk | refine Wk.up rfl ?_)) ⟨by omega, by omega, rfl⟩ ?_
    rintro q ⟨hq1, hq2, eq⟩
    repeat' (first|refine wA ?_|refine wB ?_|refine wH ?_|refine wI ?_|refine wJ ?_|refine wC ?_|refine wD ?_|refine wE ?_|refine wF ?_|refine wG ?_|refine wK ?_|refine wL ?_|refine wM ?_|refine wN ?_|refine wO ?_|refine wP ?_|refine wQ ?_|refine wR ?_|refine wS ?_|refine wT ?_|refine wU ?_|refine wV ?_|refine wW ?_|refine wX ?_)
    refine Run.draw [0, 1, 2, 3, 4, 5, 6, 7, 8, 9, 10, 11, 12, 13, 14, 15, 16] Try.checked.mixed (by kernel_rfl) ?_
    repeat' (first|refine wA ?_|refine wB ?_|refine wH ?_|refine wI ?_|refine wJ ?_|refine wC ?_|refine wD ?_|refine wE ?_|refine wF ?_|refine wG ?_|refine wK ?_|refine wL ?_|refine wM ?_|refine wN ?_|refine wO ?_|refine wP ?_|refine wQ ?_|refine wR ?_|refine wS ?_|refine wT ?_|refine wU ?_|refine wV ?_|refine wW ?_|refine wX ?_)
    refine Ops.cmp rfl rfl rfl (fun hs1 => ?_) (fun hs1 => ?_)
    · rw [scanUp_step] at eq
      repeat' (first|refine wA ?_|refine wB ?_|refine wH ?_|refine wI ?_|refine wJ ?_|refine wC ?_|refine wD ?_|refine wE ?_|refine wF ?_|refine wG ?_|refine wK ?_|refine wL ?_|refine wM ?_|refine wN ?_|refine wO ?_|refine wP ?_|refine wQ ?_|refine wR ?_|refine wS ?_|refine wT ?_|refine wU ?_|refine wV ?_|refine wW ?_|refine wX ?_)
      refine Ops.unS rfl rfl rfl ?_
      refine Ops.rdS (a) h3 rfl rfl rfl rfl (by omega) (by kernel_rfl) (by kernel_rfl) fun pz u1 ok1 cu1 => ?_
      repeat' (first|refine wA ?_|refine wB ?_|refine wH ?_|refine wI ?_|refine wJ ?_|refine wC ?_|refine wD ?_|refine wE ?_|refine wF ?_|refine wG ?_|refine wK ?_|refine wL ?_|refine wM ?_|refine wN ?_|refine wO ?_|refine wP ?_|refine wQ ?_|refine wR ?_|refine wS ?_|refine wT ?_|refine wU ?_|refine wV ?_|refine wW ?_|refine wX ?_)
      refine Ops.unS rfl rfl rfl ?_
      refine Ops.rdS (q) h3 rfl rfl rfl rfl (by omega) (by kernel_rfl) (by kernel_rfl) fun pz u2 ok2 cu2 => ?_
      repeat' (first|refine wA ?_|refine wB ?_|refine wH ?_|refine wI ?_|refine wJ ?_|refine wC ?_|refine wD ?_|refine wE ?_|refine wF ?_|refine wG ?_|refine wK ?_|refine wL ?_|refine wM ?_|refine wN ?_|refine wO ?_|refine wP ?_|refine wQ ?_|refine wR ?_|refine wS ?_|refine wT ?_|refine wU ?_|refine wV ?_|refine wW ?_|refine wX ?_)
      refine Ops.callVE rfl (hcmp _ _ _ _ _ ok1 ok2) ?_
      repeat' (first|refine wA ?_|refine wB ?_|refine wH ?_|refine wI ?_|refine wJ ?_|refine wC ?_|refine wD ?_|refine wE ?_|refine wF ?_|refine wG ?_|refine wK ?_|refine wL ?_|refine wM ?_|refine wN ?_|refine wO ?_|refine wP ?_|refine wQ ?_|refine wR ?_|refine wS ?_|refine wT ?_|refine wU ?_|refine wV ?_|refine wW ?_|refine wX ?_)
      refine Ops.cmp rfl rfl rfl (fun hs2 => ?_) (fun hs2 => ?_)
      · rw [if_neg (by simp [ltc, hs2])] at eq
        repeat' (first|refine wA ?_|refine wB ?_|refine wH ?_|refine wI ?_|refine wJ ?_|refine wC ?_|refine wD ?_|refine wE ?_|refine wF ?_|refine wG ?_|refine wK ?_|refine wL ?_|refine wM ?_|refine wN ?_|refine wO ?_|refine wP ?_|refine wQ ?_|refine wR ?_|refine wS ?_|refine wT ?_|refine wU ?_|refine wV ?_|refine wW ?_|refine wX ?_)
        refine ⟨q, rfl, rfl, by dsimp only; exact (by repeat (first | exact Wk.jk | refine Wk.up rfl ?_)), ?_⟩
        exact ⟨eq, by omega, by omega⟩
      · rw [if_pos (by simp [ltc, hs2]; omega)] at eq
        repeat' (first|refine wA ?_|refine wB ?_|refine wH ?_|refine wI ?_|refine wJ ?_|refine wC ?_|refine wD ?_|refine wE ?_|refine wF ?_|refine wG ?_|refine wK ?_|refine wL ?_|refine wM ?_|refine wN ?_|refine wO ?_|refine wP ?_|refine wQ ?_|refine wR ?_|refine wS ?_|refine wT ?_|refine wU ?_|refine wV ?_|refine wW ?_|refine wX ?_)
        refine ⟨q + 1, by dsimp only; omega, rfl, rfl, by dsimp only; exact (by repeat (first | exact Wk.jk | refine Wk.up rfl ?_)), ?_⟩
        exact ⟨by omega, by omega, eq⟩
    · rw [scanUp_step, if_neg (by simp; omega)] at eq
      repeat' (first|refine wA ?_|refine wB ?_|refine wH ?_|refine wI ?_|refine wJ ?_|refine wC ?_|refine wD ?_|refine wE ?_|refine wF ?_|refine wG ?_|refine wK ?_|refine wL ?_|refine wM ?_|refine wN ?_|refine wO ?_|refine wP ?_|refine wQ ?_|refine wR ?_|refine wS ?_|refine wT ?_|refine wU ?_|refine wV ?_|refine wW ?_|refine wX ?_)
      refine ⟨q, rfl, rfl, by dsimp only; exact (by repeat (first | exact Wk.jk | refine Wk.up rfl ?_)), ?_⟩
      exact ⟨eq, by omega, by omega⟩
  · rintro i4 ⟨ei4, i41, i42⟩
    repeat' (first|refine wA ?_|refine wB ?_|refine wH ?_|refine wI ?_|refine wJ ?_|refine wC ?_|refine wD ?_|refine wE ?_|refine wF ?_|refine wG ?_|refine wK ?_|refine wL ?_|refine wM ?_|refine wN ?_|refine wO ?_|refine wP ?_|refine wQ ?_|refine wR ?_|refine wS ?_|refine wT ?_|refine wU ?_|refine wV ?_|refine wW ?_|refine wX ?_)
    refine Run.joinB (β := Nat) (fun y => up (up (up (up (up jk 0 v) 1 (.int .i64 (a : Int))) 4 (.func (.func g) #[] #[])) 11 (.int .i64 ((i4 : Nat) : Int))) 12 (.int .i64 ((y : Nat) : Int))) (fun _ => H3) (fun y => y = scanDown (fun x => ltc cf d3[a]! x) d3 i4 j3 ∧ y ≤ j3 ∧ i4 ≤ y + 1) ?_ ?_
    · refine Run.loopW (fun (x : Nat) => x) (fun x => up (up (up (up (up jk 0 v) 1 (.int .i64 (a : Int))) 4 (.func (.func g) #[] #[])) 11 (.int .i64 ((i4 : Nat) : Int))) 12 (.int .i64 ((x : Nat) : Int))) (fun _ => H3) (fun x => x ≤ j3 ∧ i4 ≤ x + 1 ∧ scanDown (fun x => ltc cf d3[a]! x) d3 i4 x = scanDown (fun x => ltc cf d3[a]! x) d3 i4 j3) (j3) rfl (by repeat (first | exact Wk.jk | refine Wk.up rfl ?_)) ⟨by omega, by omega, rfl⟩ ?_
      rintro q ⟨hq1, hq2, eq⟩
      repeat' (first|refine wA ?_|refine wB ?_|refine wH ?_|refine wI ?_|refine wJ ?_|refine wC ?_|refine wD ?_|refine wE ?_|refine wF ?_|refine wG ?_|refine wK ?_|refine wL ?_|refine wM ?_|refine wN ?_|refine wO ?_|refine wP ?_|refine wQ ?_|refine wR ?_|refine wS ?_|refine wT ?_|refine wU ?_|refine wV ?_|refine wW ?_|refine wX ?_)
      refine Run.draw [0, 1, 2, 3, 4, 5, 6, 7, 8, 9, 10, 11, 12, 13, 14, 15] Try.checked.mixed (by kernel_rfl) ?_
      repeat' (first|refine wA ?_|refine wB ?_|refine wH ?_|refine wI ?_|refine wJ ?_|refine wC ?_|refine wD ?_|refine wE ?_|refine wF ?_|refine wG ?_|refine wK ?_|refine wL ?_|refine wM ?_|refine wN ?_|refine wO ?_|refine wP ?_|refine wQ ?_|refine wR ?_|refine wS ?_|refine wT ?_|refine wU ?_|refine wV ?_|refine wW ?_|refine wX ?_)
      refine Ops.cmp rfl rfl rfl (fun hs1 => ?_) (fun hs1 => ?_)
      · obtain ⟨q, rfl⟩ : ∃ y, q = y + 1 := ⟨q - 1, by omega⟩
        rw [scanDown_succ] at eq
        repeat' (first|refine wA ?_|refine wB ?_|refine wH ?_|refine wI ?_|refine wJ ?_|refine wC ?_|refine wD ?_|refine wE ?_|refine wF ?_|refine wG ?_|refine wK ?_|refine wL ?_|refine wM ?_|refine wN ?_|refine wO ?_|refine wP ?_|refine wQ ?_|refine wR ?_|refine wS ?_|refine wT ?_|refine wU ?_|refine wV ?_|refine wW ?_|refine wX ?_)
        refine Ops.unS rfl rfl rfl ?_
        refine Ops.rdS (a) h3 rfl rfl rfl rfl (by omega) (by kernel_rfl) (by kernel_rfl) fun pz u1 ok1 cu1 => ?_
        repeat' (first|refine wA ?_|refine wB ?_|refine wH ?_|refine wI ?_|refine wJ ?_|refine wC ?_|refine wD ?_|refine wE ?_|refine wF ?_|refine wG ?_|refine wK ?_|refine wL ?_|refine wM ?_|refine wN ?_|refine wO ?_|refine wP ?_|refine wQ ?_|refine wR ?_|refine wS ?_|refine wT ?_|refine wU ?_|refine wV ?_|refine wW ?_|refine wX ?_)
        refine Ops.unS rfl rfl rfl ?_
        refine Ops.rdS ((q + 1)) h3 rfl rfl rfl rfl (by omega) (by kernel_rfl) (by kernel_rfl) fun pz u2 ok2 cu2 => ?_
        repeat' (first|refine wA ?_|refine wB ?_|refine wH ?_|refine wI ?_|refine wJ ?_|refine wC ?_|refine wD ?_|refine wE ?_|refine wF ?_|refine wG ?_|refine wK ?_|refine wL ?_|refine wM ?_|refine wN ?_|refine wO ?_|refine wP ?_|refine wQ ?_|refine wR ?_|refine wS ?_|refine wT ?_|refine wU ?_|refine wV ?_|refine wW ?_|refine wX ?_)
        refine Ops.callVE rfl (hcmp _ _ _ _ _ ok1 ok2) ?_
        repeat' (first|refine wA ?_|refine wB ?_|refine wH ?_|refine wI ?_|refine wJ ?_|refine wC ?_|refine wD ?_|refine wE ?_|refine wF ?_|refine wG ?_|refine wK ?_|refine wL ?_|refine wM ?_|refine wN ?_|refine wO ?_|refine wP ?_|refine wQ ?_|refine wR ?_|refine wS ?_|refine wT ?_|refine wU ?_|refine wV ?_|refine wW ?_|refine wX ?_)
        refine Ops.cmp rfl rfl rfl (fun hs2 => ?_) (fun hs2 => ?_)
        · rw [if_pos (by simp [ltc, hs2]; omega)] at eq
          repeat' (first|refine wA ?_|refine wB ?_|refine wH ?_|refine wI ?_|refine wJ ?_|refine wC ?_|refine wD ?_|refine wE ?_|refine wF ?_|refine wG ?_|refine wK ?_|refine wL ?_|refine wM ?_|refine wN ?_|refine wO ?_|refine wP ?_|refine wQ ?_|refine wR ?_|refine wS ?_|refine wT ?_|refine wU ?_|refine wV ?_|refine wW ?_|refine wX ?_)
          have e9 : ((q + 1 : Nat) : Int) - 1 = (q : Int) := by omega
          rw [e9]
          refine ⟨q, by dsimp only; omega, rfl, rfl, by dsimp only; exact (by repeat (first | exact Wk.jk | refine Wk.up rfl ?_)), ?_⟩
          exact ⟨by omega, by omega, eq⟩
        · rw [if_neg (by simp [ltc, hs2])] at eq
          repeat' (first|refine wA ?_|refine wB ?_|refine wH ?_|refine wI ?_|refine wJ ?_|refine wC ?_|refine wD ?_|refine wE ?_|refine wF ?_|refine wG ?_|refine wK ?_|refine wL ?_|refine wM ?_|refine wN ?_|refine wO ?_|refine wP ?_|refine wQ ?_|refine wR ?_|refine wS ?_|refine wT ?_|refine wU ?_|refine wV ?_|refine wW ?_|refine wX ?_)
          refine ⟨(q + 1), rfl, rfl, by dsimp only; exact (by repeat (first | exact Wk.jk | refine Wk.up rfl ?_)), ?_⟩
          exact ⟨eq, by omega, by omega⟩
      · rw [scanDown_stop (by omega)] at eq
        repeat' (first|refine wA ?_|refine wB ?_|refine wH ?_|refine wI ?_|refine wJ ?_|refine wC ?_|refine wD ?_|refine wE ?_|refine wF ?_|refine wG ?_|refine wK ?_|refine wL ?_|refine wM ?_|refine wN ?_|refine wO ?_|refine wP ?_|refine wQ ?_|refine wR ?_|refine wS ?_|refine wT ?_|refine wU ?_|refine wV ?_|refine wW ?_|refine wX ?_)
        refine ⟨q, rfl, rfl, by dsimp only; exact (by repeat (first | exact Wk.jk | refine Wk.up rfl ?_)), ?_⟩
        exact ⟨eq, by omega, by omega⟩
    · rintro j4 ⟨ej4, j41, j42⟩
      repeat' (first|refine wA ?_|refine wB ?_|refine wH ?_|refine wI ?_|refine wJ ?_|refine wC ?_|refine wD ?_|refine wE ?_|refine wF ?_|refine wG ?_|refine wK ?_|refine wL ?_|refine wM ?_|refine wN ?_|refine wO ?_|refine wP ?_|refine wQ ?_|refine wR ?_|refine wS ?_|refine wT ?_|refine wU ?_|refine wV ?_|refine wW ?_|refine wX ?_)
      refine Ops.cmp rfl rfl rfl (fun hc2 => ?_) (fun hc2 => ?_)
      · rw [partEqLoop_eq, ← ei4, ← ej4, if_pos (by omega)] at e3
        repeat' (first|refine wA ?_|refine wB ?_|refine wH ?_|refine wI ?_|refine wJ ?_|refine wC ?_|refine wD ?_|refine wE ?_|refine wF ?_|refine wG ?_|refine wK ?_|refine wL ?_|refine wM ?_|refine wN ?_|refine wO ?_|refine wP ?_|refine wQ ?_|refine wR ?_|refine wS ?_|refine wT ?_|refine wU ?_|refine wV ?_|refine wW ?_|refine wX ?_)
        refine Run.ret ⟨.inl rfl, ResK.tmp rfl (by conv => lhs; whnf) (ResK.nil ?_)⟩
        exact ⟨by rw [← e3]; rfl, by rw [← e3]; exact h3, t3⟩
      · repeat' (first|refine wA ?_|refine wB ?_|refine wH ?_|refine wI ?_|refine wJ ?_|refine wC ?_|refine wD ?_|refine wE ?_|refine wF ?_|refine wG ?_|refine wK ?_|refine wL ?_|refine wM ?_|refine wN ?_|refine wO ?_|refine wP ?_|refine wQ ?_|refine wR ?_|refine wS ?_|refine wT ?_|refine wU ?_|refine wV ?_|refine wW ?_|refine wX ?_)
        have hne := scan_ne ei4 ej4 (fun x => by simp) (by omega) (by omega) (by omega)
        refine Run.draw [0, 1, 2, 3, 4, 5, 6, 7, 8, 9, 10, 11, 12, 13, 14, 15] Try.checked.mixed (by kernel_rfl) ?_
        repeat' (first|refine wA ?_|refine wB ?_|refine wH ?_|refine wI ?_|refine wJ ?_|refine wC ?_|refine wD ?_|refine wE ?_|refine wF ?_|refine wG ?_|refine wK ?_|refine wL ?_|refine wM ?_|refine wN ?_|refine wO ?_|refine wP ?_|refine wQ ?_|refine wR ?_|refine wS ?_|refine wT ?_|refine wU ?_|refine wV ?_|refine wW ?_|refine wX ?_)
        refine Ops.rdS (j4) h3 rfl rfl rfl rfl (by omega) (by kernel_rfl) (by kernel_rfl) fun pz u3 ok3 cu3 => ?_
        repeat' (first|refine wA ?_|refine wB ?_|refine wH ?_|refine wI ?_|refine wJ ?_|refine wC ?_|refine wD ?_|refine wE ?_|refine wF ?_|refine wG ?_|refine wK ?_|refine wL ?_|refine wM ?_|refine wN ?_|refine wO ?_|refine wP ?_|refine wQ ?_|refine wR ?_|refine wS ?_|refine wT ?_|refine wU ?_|refine wV ?_|refine wW ?_|refine wX ?_)
        refine Ops.rdS (i4) h3 rfl rfl rfl rfl (by omega) (by kernel_rfl) (by kernel_rfl) fun pz u4 ok4 cu4 => ?_
        refine Ops.swS (i4) (j4) h3 rfl rfl rfl rfl rfl rfl rfl (by omega) (by omega) rfl rfl ok3 ok4 cu3 cu4 (by simp) (by simp) (by simp) (by simp) (by simp) (by kernel_rfl) (by kernel_rfl) (by kernel_rfl) fun pz qz H4 h4 t4 => ?_
        repeat' (first|refine wA ?_|refine wB ?_|refine wH ?_|refine wI ?_|refine wJ ?_|refine wC ?_|refine wD ?_|refine wE ?_|refine wF ?_|refine wG ?_|refine wK ?_|refine wL ?_|refine wM ?_|refine wN ?_|refine wO ?_|refine wP ?_|refine wQ ?_|refine wR ?_|refine wS ?_|refine wT ?_|refine wU ?_|refine wV ?_|refine wW ?_|refine wX ?_)
        have e8 : (j4 : Int) - 1 = ((j4 - 1 : Nat) : Int) := by omega
        rw [e8]
        refine ⟨(i4 + 1, j4 - 1, H4, swp d3 i4 j4), by dsimp only; omega, rfl, rfl, by dsimp only; exact (by repeat (first | exact Wk.jk | refine Wk.up rfl ?_)), ?_⟩
        refine ⟨by dsimp only; omega, by dsimp only; omega, by dsimp only; omega, h4, t3.trans t4, by dsimp only; rw [size_swp]; exact sz3, ?_⟩
        dsimp only
        rw [partEqLoop_eq, ← ei4, ← ej4, if_neg (by omega)] at e3
        exact e3

end
end Go.Proofs.Ytefmjpbmdoebaaa

/- Sorting rows of rows: the attempt on a row that is nearly sorted. -/
set_option linter.unusedVariables false
namespace Go.Proofs.Ytefmjpbmdoebaaa
open Go Go.RowKit Go.Sort

theorem scanSorted_step (lt : LF → LF → Bool) (d : Array LF) (b i : Nat) : scanSorted lt d b i = if i < b && !lt d[i]! d[i - 1]! then scanSorted lt d b (i + 1) else i := by rw [scanSorted]
theorem shiftDown_succ (lt : LF → LF → Bool) (j : Nat) (d : Array LF) : shiftDown lt (j + 1) d = if !lt d[j + 1]! d[j]! then d else shiftDown lt j (swp d (j + 1) j) := rfl
theorem shiftUp_step (lt : LF → LF → Bool) (b j : Nat) (d : Array LF) : shiftUp lt b j d = if j < b then (if !lt d[j]! d[j - 1]! then d else shiftUp lt b (j + 1) (swp d j (j - 1))) else d := by rw [shiftUp]

section
variable {g : FuncId} {cf : LF → LF → Int} (hcmp : ∀ (H : Hp) (u1 u2 : Value) (a b : LF), (cF cI 3).ok H [u1] a → (cF cI 3).ok H [u2] b → acall Try.prog g [u1, u2] H (.int .i64 (cf a b)) H)
  {H : Hp} {v : Value} {d : Array LF} {k r a b : Nat}
include hcmp

set_option maxHeartbeats 2000000 in
theorem partialInsertionSort_ok (h : SR (elF 3) 24 k r H v d) (hb : b ≤ d.size) (ha : a < b) (hn : d.size ≤ 1099511627776) :
    CallK Try.prog 115 [v, .int .i64 (a : Int), .int .i64 (b : Int), .func (.func g) #[] #[]] H (fun res H' => res = .bool (partialInsertionSort (ltc cf) d a b).2 ∧ SR (elF 3) 24 k r H' v (partialInsertionSort (ltc cf) d a b).1 ∧ Tr r H H') := by
  refine (CallK.enter Try.func115 rfl rfl Try.ntmps115 Try.results115 rfl ?_)
  repeat' (first|refine wA ?_|refine wB ?_|refine wH ?_|refine wI ?_|refine wJ ?_|refine wC ?_|refine wD ?_|refine wE ?_|refine wF ?_|refine wG ?_|refine wK ?_|refine wL ?_|refine wM ?_|refine wN ?_|refine wO ?_|refine wP ?_|refine wQ ?_|refine wR ?_|refine wS ?_|refine wT ?_|refine wU ?_|refine wV ?_|refine wW ?_|refine wX ?_)
  have e6 : (a : Int) + 1 = ((a + 1 : Nat) : Int) := by omega
  rw [e6]
  refine Run.loopW (fun (x : Nat × Nat × Hp × Array LF) => x.1) (fun x => up (up (up (up (up (up jk 0 v) 1 (.int .i64 (a : Int))) 2 (.int .i64 (b : Int))) 3 (.func (.func g) #[] #[])) 9 (.int .i64 (x.2.1 : Int))) 10 (.int .i64 (5 - (x.1 : Int)))) (fun x => x.2.2.1)
    (fun x => x.1 ≤ 5 ∧ a < x.2.1 ∧ x.2.1 ≤ b ∧ SR (elF 3) 24 k r x.2.2.1 v x.2.2.2 ∧ Tr r H x.2.2.1 ∧ x.2.2.2.size = d.size ∧ partialIns (ltc cf) a b x.1 x.2.1 x.2.2.2 = partialInsertionSort (ltc cf) d a b) (5, a + 1, H, d) rfl (by repeat (first | exact Wk.jk | refine Wk.up rfl ?_)) ⟨by dsimp only; omega, by dsimp only; omega, by dsimp only; omega, h, Tr.refl, rfl, rfl⟩ ?_
  rintro ⟨s, i0, H1, d1⟩ ⟨hs, hi1, hi2, h1, t1, sz1, e1⟩
  dsimp only at hs hi1 hi2 h1 t1 sz1 e1
  dsimp only
  repeat' (first|refine wA ?_|refine wB ?_|refine wH ?_|refine wI ?_|refine wJ ?_|refine wC ?_|refine wD ?_|refine wE ?_|refine wF ?_|refine wG ?_|refine wK ?_|refine wL ?_|refine wM ?_|refine wN ?_|refine wO ?_|refine wP ?_|refine wQ ?_|refine wR ?_|refine wS ?_|refine wT ?_|refine wU ?_|refine wV ?_|refine wW ?_|refine wX ?_)
  refine Ops.cmp rfl rfl rfl (fun hc => ?_) (fun hc => ?_)
  · obtain ⟨s, rfl⟩ : ∃ y, s = y + 1 := ⟨s - 1, by omega⟩
    rw [partialIns_succ] at e1
    repeat' (first|refine wA ?_|refine wB ?_|refine wH ?_|refine wI ?_|refine wJ ?_|refine wC ?_|refine wD ?_|refine wE ?_|refine wF ?_|refine wG ?_|refine wK ?_|refine wL ?_|refine wM ?_|refine wN ?_|refine wO ?_|refine wP ?_|refine wQ ?_|refine wR ?_|refine wS ?_|refine wT ?_|refine wU ?_|refine wV ?_|refine wW ?_|refine wX ?_)
    refine Run.joinB (β := Nat) (fun y => up (up (up (up (up (up jk 0 v) 1 (.int .i64 (a : Int))) 2 (.int .i64 (b : Int))) 3 (.func (.func g) #[] #[])) 9 (.int .i64 (y : Int))) 10 (.int .i64 (5 - ((s + 1 : Nat) : Int)))) (fun _ => H1) (fun y => y = scanSorted (ltc cf) d1 b i0 ∧ i0 ≤ y ∧ y ≤ b) ?_ ?_
    · refine Run.loopW (fun (x : Nat) => b - x) (fun x => up (up (up (up (up (up jk 0 v) 1 (.int .i64 (a : Int))) 2 (.int .i64 (b : Int))) 3 (.func (.func g) #[] #[])) 9 (.int .i64 (x : Int))) 10 (.int .i64 (5 - ((s + 1 : Nat) : Int)))) (fun _ => H1) (fun x => i0 ≤ x ∧ x ≤ b ∧ scanSorted (ltc cf) d1 b x = scanSorted (ltc cf) d1 b i0) i0 rfl (by repeat (first | exact Wk.jk | refine Wk.up rfl ?_)) ⟨by omega, by omega, rfl⟩ ?_
      rintro q ⟨hq1, hq2, eq⟩
      rw [scanSorted_step] at eq
      repeat' (first|refine wA ?_|refine wB ?_|refine wH ?_|refine wI ?_|refine wJ ?_|refine wC ?_|refine wD ?_|refine wE ?_|refine wF ?_|refine wG ?_|refine wK ?_|refine wL ?_|refine wM ?_|refine wN ?_|refine wO ?_|refine wP ?_|refine wQ ?_|refine wR ?_|refine wS ?_|refine wT ?_|refine wU ?_|refine wV ?_|refine wW ?_|refine wX ?_)
      refine Run.draw [0, 1, 2, 3, 4, 5, 6, 7, 8, 9, 10, 11, 12, 13, 14, 15, 16, 17] Try.checked.mixed (by kernel_rfl) ?_
      repeat' (first|refine wA ?_|refine wB ?_|refine wH ?_|refine wI ?_|refine wJ ?_|refine wC ?_|refine wD ?_|refine wE ?_|refine wF ?_|refine wG ?_|refine wK ?_|refine wL ?_|refine wM ?_|refine wN ?_|refine wO ?_|refine wP ?_|refine wQ ?_|refine wR ?_|refine wS ?_|refine wT ?_|refine wU ?_|refine wV ?_|refine wW ?_|refine wX ?_)
      refine Ops.cmp rfl rfl rfl (fun hs1 => ?_) (fun hs1 => ?_)
      · repeat' (first|refine wA ?_|refine wB ?_|refine wH ?_|refine wI ?_|refine wJ ?_|refine wC ?_|refine wD ?_|refine wE ?_|refine wF ?_|refine wG ?_|refine wK ?_|refine wL ?_|refine wM ?_|refine wN ?_|refine wO ?_|refine wP ?_|refine wQ ?_|refine wR ?_|refine wS ?_|refine wT ?_|refine wU ?_|refine wV ?_|refine wW ?_|refine wX ?_)
        refine Ops.unS rfl rfl rfl ?_
        refine Ops.rdS q h1 rfl rfl rfl rfl (by omega) (by kernel_rfl) (by kernel_rfl) fun pz u1 ok1 cu1 => ?_
        repeat' (first|refine wA ?_|refine wB ?_|refine wH ?_|refine wI ?_|refine wJ ?_|refine wC ?_|refine wD ?_|refine wE ?_|refine wF ?_|refine wG ?_|refine wK ?_|refine wL ?_|refine wM ?_|refine wN ?_|refine wO ?_|refine wP ?_|refine wQ ?_|refine wR ?_|refine wS ?_|refine wT ?_|refine wU ?_|refine wV ?_|refine wW ?_|refine wX ?_)
        refine Ops.unS rfl rfl rfl ?_
        refine Ops.rdS (q - 1) h1 rfl rfl rfl (by omega) (by omega) (by kernel_rfl) (by kernel_rfl) fun pz u2 ok2 cu2 => ?_
        repeat' (first|refine wA ?_|refine wB ?_|refine wH ?_|refine wI ?_|refine wJ ?_|refine wC ?_|refine wD ?_|refine wE ?_|refine wF ?_|refine wG ?_|refine wK ?_|refine wL ?_|refine wM ?_|refine wN ?_|refine wO ?_|refine wP ?_|refine wQ ?_|refine wR ?_|refine wS ?_|refine wT ?_|refine wU ?_|refine wV ?_|refine wW ?_|refine wX ?_)
        refine Ops.callVE rfl (hcmp _ _ _ _ _ ok1 ok2) ?_
        repeat' (first|refine wA ?_|refine wB ?_|refine wH ?_|refine wI ?_|refine wJ ?_|refine wC ?_|refine wD ?_|refine wE ?_|refine wF ?_|refine wG ?_|refine wK ?_|refine wL ?_|refine wM ?_|refine wN ?_|refine wO ?_|refine wP ?_|refine wQ ?_|refine wR ?_|refine wS ?_|refine wT ?_|refine wU ?_|refine wV ?_|refine wW ?_|refine wX ?_)
        refine Ops.cmp rfl rfl rfl (fun hs2 => ?_) (fun hs2 => ?_)
        · rw [if_neg (by simp [ltc, hs2])] at eq
          repeat' (first|refine wA ?_|refine wB ?_|refine wH ?_|refine wI ?_|refine wJ ?_|refine wC ?_|refine wD ?_|refine wE ?_|refine wF ?_|refine wG ?_|refine wK ?_|refine wL ?_|refine wM ?_|refine wN ?_|refine wO ?_|refine wP ?_|refine wQ ?_|refine wR ?_|refine wS ?_|refine wT ?_|refine wU ?_|refine wV ?_|refine wW ?_|refine wX ?_)
          refine ⟨q, rfl, rfl, by dsimp only; exact (by repeat (first | exact Wk.jk | refine Wk.up rfl ?_)), ?_⟩
          exact ⟨eq, by omega, by omega⟩
        · rw [if_pos (by simp [ltc, hs2]; omega)] at eq
          repeat' (first|refine wA ?_|refine wB ?_|refine wH ?_|refine wI ?_|refine wJ ?_|refine wC ?_|refine wD ?_|refine wE ?_|refine wF ?_|refine wG ?_|refine wK ?_|refine wL ?_|refine wM ?_|refine wN ?_|refine wO ?_|refine wP ?_|refine wQ ?_|refine wR ?_|refine wS ?_|refine wT ?_|refine wU ?_|refine wV ?_|refine wW ?_|refine wX ?_)
          refine ⟨q + 1, by dsimp only; omega, rfl, rfl, by dsimp only; exact (by repeat (first | exact Wk.jk | refine Wk.up rfl ?_)), ?_⟩
          exact ⟨by omega, by omega, eq⟩
      · rw [if_neg (by simp; omega)] at eq
        repeat' (first|refine wA ?_|refine wB ?_|refine wH ?_|refine wI ?_|refine wJ ?_|refine wC ?_|refine wD ?_|refine wE ?_|refine wF ?_|refine wG ?_|refine wK ?_|refine wL ?_|refine wM ?_|refine wN ?_|refine wO ?_|refine wP ?_|refine wQ ?_|refine wR ?_|refine wS ?_|refine wT ?_|refine wU ?_|refine wV ?_|refine wW ?_|refine wX ?_)
        refine ⟨q, rfl, rfl, by dsimp only; exact (by repeat (first | exact Wk.jk | refine Wk.up rfl ?_)), ?_⟩
        exact ⟨eq, by omega, by omega⟩
    · rintro i ⟨ei, hia, hib⟩
      rw [← ei] at e1
      repeat' (first|refine wA ?_|refine wB ?_|refine wH ?_|refine wI ?_|refine wJ ?_|refine wC ?_|refine wD ?_|refine wE ?_|refine wF ?_|refine wG ?_|refine wK ?_|refine wL ?_|refine wM ?_|refine wN ?_|refine wO ?_|refine wP ?_|refine wQ ?_|refine wR ?_|refine wS ?_|refine wT ?_|refine wU ?_|refine wV ?_|refine wW ?_|refine wX ?_)
      refine Ops.cmp rfl rfl rfl (fun hc1 => ?_) (fun hc1 => ?_)
      · rw [if_pos (by omega)] at e1
        repeat' (first|refine wA ?_|refine wB ?_|refine wH ?_|refine wI ?_|refine wJ ?_|refine wC ?_|refine wD ?_|refine wE ?_|refine wF ?_|refine wG ?_|refine wK ?_|refine wL ?_|refine wM ?_|refine wN ?_|refine wO ?_|refine wP ?_|refine wQ ?_|refine wR ?_|refine wS ?_|refine wT ?_|refine wU ?_|refine wV ?_|refine wW ?_|refine wX ?_)
        refine Run.ret ⟨.inl rfl, ResK.tmp rfl (by conv => lhs; whnf) (ResK.nil ?_)⟩
        exact ⟨by rw [← e1]; rfl, by rw [← e1]; exact h1, t1⟩
      · rw [if_neg (by omega)] at e1
        repeat' (first|refine wA ?_|refine wB ?_|refine wH ?_|refine wI ?_|refine wJ ?_|refine wC ?_|refine wD ?_|refine wE ?_|refine wF ?_|refine wG ?_|refine wK ?_|refine wL ?_|refine wM ?_|refine wN ?_|refine wO ?_|refine wP ?_|refine wQ ?_|refine wR ?_|refine wS ?_|refine wT ?_|refine wU ?_|refine wV ?_|refine wW ?_|refine wX ?_)
        refine Ops.cmp rfl rfl rfl (fun hc2 => ?_) (fun hc2 => ?_)
        · rw [if_pos (by omega)] at e1
          repeat' (first|refine wA ?_|refine wB ?_|refine wH ?_|refine wI ?_|refine wJ ?_|refine wC ?_|refine wD ?_|refine wE ?_|refine wF ?_|refine wG ?_|refine wK ?_|refine wL ?_|refine wM ?_|refine wN ?_|refine wO ?_|refine wP ?_|refine wQ ?_|refine wR ?_|refine wS ?_|refine wT ?_|refine wU ?_|refine wV ?_|refine wW ?_|refine wX ?_)
          refine Run.ret ⟨.inl rfl, ResK.tmp rfl (by conv => lhs; whnf) (ResK.nil ?_)⟩
          exact ⟨by rw [← e1]; rfl, by rw [← e1]; exact h1, t1⟩
        · rw [if_neg (by omega)] at e1
          repeat' (first|refine wA ?_|refine wB ?_|refine wH ?_|refine wI ?_|refine wJ ?_|refine wC ?_|refine wD ?_|refine wE ?_|refine wF ?_|refine wG ?_|refine wK ?_|refine wL ?_|refine wM ?_|refine wN ?_|refine wO ?_|refine wP ?_|refine wQ ?_|refine wR ?_|refine wS ?_|refine wT ?_|refine wU ?_|refine wV ?_|refine wW ?_|refine wX ?_)
          refine Run.draw [0, 1, 2, 3, 4, 5, 6, 7, 8, 9, 10, 11, 12, 13, 14, 15, 16, 17] Try.checked.mixed (by kernel_rfl) ?_
          repeat' (first|refine wA ?_|refine wB ?_|refine wH ?_|refine wI ?_|refine wJ ?_|refine wC ?_|refine wD ?_|refine wE ?_|refine wF ?_|refine wG ?_|refine wK ?_|refine wL ?_|refine wM ?_|refine wN ?_|refine wO ?_|refine wP ?_|refine wQ ?_|refine wR ?_|refine wS ?_|refine wT ?_|refine wU ?_|refine wV ?_|refine wW ?_|refine wX ?_)
          refine Ops.rdS (i - 1) h1 rfl rfl rfl (by omega) (by omega) (by kernel_rfl) (by kernel_rfl) fun pz u3 ok3 cu3 => ?_
          repeat' (first|refine wA ?_|refine wB ?_|refine wH ?_|refine wI ?_|refine wJ ?_|refine wC ?_|refine wD ?_|refine wE ?_|refine wF ?_|refine wG ?_|refine wK ?_|refine wL ?_|refine wM ?_|refine wN ?_|refine wO ?_|refine wP ?_|refine wQ ?_|refine wR ?_|refine wS ?_|refine wT ?_|refine wU ?_|refine wV ?_|refine wW ?_|refine wX ?_)
          refine Ops.rdS i h1 rfl rfl rfl rfl (by omega) (by kernel_rfl) (by kernel_rfl) fun pz u4 ok4 cu4 => ?_
          refine Ops.swS i (i - 1) h1 rfl rfl rfl rfl rfl rfl (by omega) (by omega) (by omega) rfl rfl ok3 ok4 cu3 cu4 (by simp) (by simp) (by simp) (by simp) (by simp) (by kernel_rfl) (by kernel_rfl) (by kernel_rfl) fun pz qz H2 h2 t2 => ?_
          obtain ⟨d2, hd2⟩ : ∃ y, y = swp d1 i (i - 1) := ⟨_, rfl⟩
          rw [← hd2] at h2 e1
          have sz2 : d2.size = d.size := by rw [hd2, size_swp]; exact sz1
          have t2 := t1.trans t2
          refine Ops.nil ?_
          refine Run.seq ?_
          refine Run.join (β := Hp × Array LF) (fun y => up (up (up (up (up (up jk 0 v) 1 (.int .i64 (a : Int))) 2 (.int .i64 (b : Int))) 3 (.func (.func g) #[] #[])) 9 (.int .i64 (i : Int))) 10 (.int .i64 (5 - ((s + 1 : Nat) : Int)))) (fun y => y.1) (fun y => SR (elF 3) 24 k r y.1 v y.2 ∧ Tr r H y.1 ∧ y.2.size = d.size ∧ y.2 = fixDown (ltc cf) a i d2) ?_ ?_
          · repeat' (first|refine wA ?_|refine wB ?_|refine wH ?_|refine wI ?_|refine wJ ?_|refine wC ?_|refine wD ?_|refine wE ?_|refine wF ?_|refine wG ?_|refine wK ?_|refine wL ?_|refine wM ?_|refine wN ?_|refine wO ?_|refine wP ?_|refine wQ ?_|refine wR ?_|refine wS ?_|refine wT ?_|refine wU ?_|refine wV ?_|refine wW ?_|refine wX ?_)
            refine Ops.cmp rfl rfl rfl (fun hc3 => ?_) (fun hc3 => ?_)
            · repeat' (first|refine wA ?_|refine wB ?_|refine wH ?_|refine wI ?_|refine wJ ?_|refine wC ?_|refine wD ?_|refine wE ?_|refine wF ?_|refine wG ?_|refine wK ?_|refine wL ?_|refine wM ?_|refine wN ?_|refine wO ?_|refine wP ?_|refine wQ ?_|refine wR ?_|refine wS ?_|refine wT ?_|refine wU ?_|refine wV ?_|refine wW ?_|refine wX ?_)
              have e8 : (i : Int) - 1 = ((i - 1 : Nat) : Int) := by omega
              rw [e8]
              have ef : fixDown (ltc cf) a i d2 = shiftDown (ltc cf) (i - 1) d2 := by unfold fixDown; rw [if_pos (by omega)]
              refine Run.loopW (fun (x : Nat × Hp × Array LF) => x.1) (fun x => up (up (up (up (up (up (up jk 0 v) 1 (.int .i64 (a : Int))) 2 (.int .i64 (b : Int))) 3 (.func (.func g) #[] #[])) 9 (.int .i64 (i : Int))) 10 (.int .i64 (5 - ((s + 1 : Nat) : Int)))) 11 (.int .i64 (x.1 : Int))) (fun x => x.2.1)
                (fun x => x.1 < i ∧ SR (elF 3) 24 k r x.2.1 v x.2.2 ∧ Tr r H x.2.1 ∧ x.2.2.size = d.size ∧ shiftDown (ltc cf) x.1 x.2.2 = fixDown (ltc cf) a i d2) (i - 1, H2, d2) rfl (by repeat (first | exact Wk.jk | refine Wk.up rfl ?_)) ⟨by dsimp only; omega, h2, t2, sz2, ef.symm⟩ ?_
              rintro ⟨j, H3, d3⟩ ⟨hj, h3, t3, sz3, e3⟩
              dsimp only at hj h3 t3 sz3 e3
              dsimp only
              repeat' (first|refine wA ?_|refine wB ?_|refine wH ?_|refine wI ?_|refine wJ ?_|refine wC ?_|refine wD ?_|refine wE ?_|refine wF ?_|refine wG ?_|refine wK ?_|refine wL ?_|refine wM ?_|refine wN ?_|refine wO ?_|refine wP ?_|refine wQ ?_|refine wR ?_|refine wS ?_|refine wT ?_|refine wU ?_|refine wV ?_|refine wW ?_|refine wX ?_)
              refine Ops.cmp rfl rfl rfl (fun hc4 => ?_) (fun hc4 => ?_)
              · obtain ⟨q, rfl⟩ : ∃ y, j = y + 1 := ⟨j - 1, by omega⟩
                rw [shiftDown_succ] at e3
                repeat' (first|refine wA ?_|refine wB ?_|refine wH ?_|refine wI ?_|refine wJ ?_|refine wC ?_|refine wD ?_|refine wE ?_|refine wF ?_|refine wG ?_|refine wK ?_|refine wL ?_|refine wM ?_|refine wN ?_|refine wO ?_|refine wP ?_|refine wQ ?_|refine wR ?_|refine wS ?_|refine wT ?_|refine wU ?_|refine wV ?_|refine wW ?_|refine wX ?_)
                refine Run.draw [0, 1, 2, 3, 4, 5, 6, 7, 8, 9, 10, 11, 12] Try.checked.mixed (by kernel_rfl) ?_
                repeat' (first|refine wA ?_|refine wB ?_|refine wH ?_|refine wI ?_|refine wJ ?_|refine wC ?_|refine wD ?_|refine wE ?_|refine wF ?_|refine wG ?_|refine wK ?_|refine wL ?_|refine wM ?_|refine wN ?_|refine wO ?_|refine wP ?_|refine wQ ?_|refine wR ?_|refine wS ?_|refine wT ?_|refine wU ?_|refine wV ?_|refine wW ?_|refine wX ?_)
                refine Ops.rdS (q + 1) h3 rfl rfl rfl rfl (by omega) (by kernel_rfl) (by kernel_rfl) fun pz u1 ok1 cu1 => ?_
                repeat' (first|refine wA ?_|refine wB ?_|refine wH ?_|refine wI ?_|refine wJ ?_|refine wC ?_|refine wD ?_|refine wE ?_|refine wF ?_|refine wG ?_|refine wK ?_|refine wL ?_|refine wM ?_|refine wN ?_|refine wO ?_|refine wP ?_|refine wQ ?_|refine wR ?_|refine wS ?_|refine wT ?_|refine wU ?_|refine wV ?_|refine wW ?_|refine wX ?_)
                refine Ops.rdS q h3 rfl rfl rfl (by omega) (by omega) (by kernel_rfl) (by kernel_rfl) fun pz u2 ok2 cu2 => ?_
                refine Ops.callVE rfl (hcmp _ _ _ _ _ ok1 ok2) ?_
                refine Ops.cmp rfl rfl rfl (fun hs2 => ?_) (fun hs2 => ?_)
                · rw [if_neg (by simp [ltc, hs2])] at e3
                  repeat' (first|refine wA ?_|refine wB ?_|refine wH ?_|refine wI ?_|refine wJ ?_|refine wC ?_|refine wD ?_|refine wE ?_|refine wF ?_|refine wG ?_|refine wK ?_|refine wL ?_|refine wM ?_|refine wN ?_|refine wO ?_|refine wP ?_|refine wQ ?_|refine wR ?_|refine wS ?_|refine wT ?_|refine wU ?_|refine wV ?_|refine wW ?_|refine wX ?_)
                  refine Run.draw [0, 1, 2, 3, 4, 5, 6, 7, 8, 9, 10, 11, 12, 13, 14, 15, 16, 17] Try.checked.mixed (by kernel_rfl) ?_
                  repeat' (first|refine wA ?_|refine wB ?_|refine wH ?_|refine wI ?_|refine wJ ?_|refine wC ?_|refine wD ?_|refine wE ?_|refine wF ?_|refine wG ?_|refine wK ?_|refine wL ?_|refine wM ?_|refine wN ?_|refine wO ?_|refine wP ?_|refine wQ ?_|refine wR ?_|refine wS ?_|refine wT ?_|refine wU ?_|refine wV ?_|refine wW ?_|refine wX ?_)
                  refine Ops.rdS q h3 rfl rfl rfl (by omega) (by omega) (by kernel_rfl) (by kernel_rfl) fun pz u5 ok5 cu5 => ?_
                  repeat' (first|refine wA ?_|refine wB ?_|refine wH ?_|refine wI ?_|refine wJ ?_|refine wC ?_|refine wD ?_|refine wE ?_|refine wF ?_|refine wG ?_|refine wK ?_|refine wL ?_|refine wM ?_|refine wN ?_|refine wO ?_|refine wP ?_|refine wQ ?_|refine wR ?_|refine wS ?_|refine wT ?_|refine wU ?_|refine wV ?_|refine wW ?_|refine wX ?_)
                  refine Ops.rdS (q + 1) h3 rfl rfl rfl rfl (by omega) (by kernel_rfl) (by kernel_rfl) fun pz u6 ok6 cu6 => ?_
                  refine Ops.swS (q + 1) q h3 rfl rfl rfl rfl rfl rfl (by omega) (by omega) (by omega) rfl rfl ok5 ok6 cu5 cu6 (by simp) (by simp) (by simp) (by simp) (by simp) (by kernel_rfl) (by kernel_rfl) (by kernel_rfl) fun pz qz H4 h4 t4 => ?_
                  repeat' (first|refine wA ?_|refine wB ?_|refine wH ?_|refine wI ?_|refine wJ ?_|refine wC ?_|refine wD ?_|refine wE ?_|refine wF ?_|refine wG ?_|refine wK ?_|refine wL ?_|refine wM ?_|refine wN ?_|refine wO ?_|refine wP ?_|refine wQ ?_|refine wR ?_|refine wS ?_|refine wT ?_|refine wU ?_|refine wV ?_|refine wW ?_|refine wX ?_)
                  have e9 : ((q + 1 : Nat) : Int) - 1 = (q : Int) := by omega
                  rw [e9]
                  refine ⟨(q, H4, swp d3 (q + 1) q), by dsimp only; omega, rfl, rfl, by dsimp only; exact (by repeat (first | exact Wk.jk | refine Wk.up rfl ?_)), ?_⟩
                  exact ⟨by dsimp only; omega, h4, t3.trans t4, by dsimp only; rw [size_swp]; exact sz3, e3⟩
                · rw [if_pos (by simp [ltc, hs2])] at e3
                  repeat' (first|refine wA ?_|refine wB ?_|refine wH ?_|refine wI ?_|refine wJ ?_|refine wC ?_|refine wD ?_|refine wE ?_|refine wF ?_|refine wG ?_|refine wK ?_|refine wL ?_|refine wM ?_|refine wN ?_|refine wO ?_|refine wP ?_|refine wQ ?_|refine wR ?_|refine wS ?_|refine wT ?_|refine wU ?_|refine wV ?_|refine wW ?_|refine wX ?_)
                  refine ⟨(H3, d3), rfl, rfl, by dsimp only; exact (by repeat (first | exact Wk.jk | refine Wk.up rfl ?_)), ?_⟩
                  exact ⟨h3, t3, sz3, e3⟩
              · have hj0 : j = 0 := by omega
                subst hj0
                repeat' (first|refine wA ?_|refine wB ?_|refine wH ?_|refine wI ?_|refine wJ ?_|refine wC ?_|refine wD ?_|refine wE ?_|refine wF ?_|refine wG ?_|refine wK ?_|refine wL ?_|refine wM ?_|refine wN ?_|refine wO ?_|refine wP ?_|refine wQ ?_|refine wR ?_|refine wS ?_|refine wT ?_|refine wU ?_|refine wV ?_|refine wW ?_|refine wX ?_)
                refine ⟨(H3, d3), rfl, rfl, by dsimp only; exact (by repeat (first | exact Wk.jk | refine Wk.up rfl ?_)), ?_⟩
                exact ⟨h3, t3, sz3, e3⟩
            · repeat' (first|refine wA ?_|refine wB ?_|refine wH ?_|refine wI ?_|refine wJ ?_|refine wC ?_|refine wD ?_|refine wE ?_|refine wF ?_|refine wG ?_|refine wK ?_|refine wL ?_|refine wM ?_|refine wN ?_|refine wO ?_|refine wP ?_|refine wQ ?_|refine wR ?_|refine wS ?_|refine wT ?_|refine wU ?_|refine wV ?_|refine wW ?_|refine wX ?_)
              refine ⟨(H2, d2), rfl, rfl, by dsimp only; exact (by repeat (first | exact Wk.jk | refine Wk.up rfl ?_)), ?_⟩
              exact ⟨h2, t2, sz2, by unfold fixDown; rw [if_neg (by omega)]⟩
          · rintro ⟨H3, d3⟩ ⟨h3, t3, sz3, e3⟩
            dsimp only at h3 t3 sz3 e3
            dsimp only
            rw [← e3] at e1
            have e10 : 5 - ((s + 1 : Nat) : Int) + 1 = 5 - (s : Int) := by omega
            repeat' (first|refine wA ?_|refine wB ?_|refine wH ?_|refine wI ?_|refine wJ ?_|refine wC ?_|refine wD ?_|refine wE ?_|refine wF ?_|refine wG ?_|refine wK ?_|refine wL ?_|refine wM ?_|refine wN ?_|refine wO ?_|refine wP ?_|refine wQ ?_|refine wR ?_|refine wS ?_|refine wT ?_|refine wU ?_|refine wV ?_|refine wW ?_|refine wX ?_)
            refine Ops.cmp rfl rfl rfl (fun hc3 => ?_) (fun hc3 => ?_)
            · have ef : fixUp (ltc cf) b i d3 = shiftUp (ltc cf) b (i + 1) d3 := by unfold fixUp; rw [if_pos (by omega)]
              repeat' (first|refine wA ?_|refine wB ?_|refine wH ?_|refine wI ?_|refine wJ ?_|refine wC ?_|refine wD ?_|refine wE ?_|refine wF ?_|refine wG ?_|refine wK ?_|refine wL ?_|refine wM ?_|refine wN ?_|refine wO ?_|refine wP ?_|refine wQ ?_|refine wR ?_|refine wS ?_|refine wT ?_|refine wU ?_|refine wV ?_|refine wW ?_|refine wX ?_)
              refine Run.loopW (fun (x : Nat × Hp × Array LF) => b - x.1) (fun x => up (up (up (up (up (up (up jk 0 v) 1 (.int .i64 (a : Int))) 2 (.int .i64 (b : Int))) 3 (.func (.func g) #[] #[])) 9 (.int .i64 (i : Int))) 10 (.int .i64 (5 - ((s + 1 : Nat) : Int)))) 12 (.int .i64 (x.1 : Int))) (fun x => x.2.1)
                (fun x => i < x.1 ∧ SR (elF 3) 24 k r x.2.1 v x.2.2 ∧ Tr r H x.2.1 ∧ x.2.2.size = d.size ∧ shiftUp (ltc cf) b x.1 x.2.2 = fixUp (ltc cf) b i d3) (i + 1, H3, d3) rfl (by repeat (first | exact Wk.jk | refine Wk.up rfl ?_)) ⟨by dsimp only; omega, h3, t3, sz3, ef.symm⟩ ?_
              rintro ⟨j, H4, d4⟩ ⟨hj, h4, t4, sz4, e4⟩
              dsimp only at hj h4 t4 sz4 e4
              dsimp only
              rw [shiftUp_step] at e4
              repeat' (first|refine wA ?_|refine wB ?_|refine wH ?_|refine wI ?_|refine wJ ?_|refine wC ?_|refine wD ?_|refine wE ?_|refine wF ?_|refine wG ?_|refine wK ?_|refine wL ?_|refine wM ?_|refine wN ?_|refine wO ?_|refine wP ?_|refine wQ ?_|refine wR ?_|refine wS ?_|refine wT ?_|refine wU ?_|refine wV ?_|refine wW ?_|refine wX ?_)
              refine Ops.cmp rfl rfl rfl (fun hc4 => ?_) (fun hc4 => ?_)
              · rw [if_pos (by omega)] at e4
                repeat' (first|refine wA ?_|refine wB ?_|refine wH ?_|refine wI ?_|refine wJ ?_|refine wC ?_|refine wD ?_|refine wE ?_|refine wF ?_|refine wG ?_|refine wK ?_|refine wL ?_|refine wM ?_|refine wN ?_|refine wO ?_|refine wP ?_|refine wQ ?_|refine wR ?_|refine wS ?_|refine wT ?_|refine wU ?_|refine wV ?_|refine wW ?_|refine wX ?_)
                refine Run.draw [0, 1, 2, 3, 4, 5, 6, 7, 8, 9, 10, 11, 12] Try.checked.mixed (by kernel_rfl) ?_
                repeat' (first|refine wA ?_|refine wB ?_|refine wH ?_|refine wI ?_|refine wJ ?_|refine wC ?_|refine wD ?_|refine wE ?_|refine wF ?_|refine wG ?_|refine wK ?_|refine wL ?_|refine wM ?_|refine wN ?_|refine wO ?_|refine wP ?_|refine wQ ?_|refine wR ?_|refine wS ?_|refine wT ?_|refine wU ?_|refine wV ?_|refine wW ?_|refine wX ?_)
                refine Ops.rdS j h4 rfl rfl rfl rfl (by omega) (by kernel_rfl) (by kernel_rfl) fun pz u1 ok1 cu1 => ?_
                repeat' (first|refine wA ?_|refine wB ?_|refine wH ?_|refine wI ?_|refine wJ ?_|refine wC ?_|refine wD ?_|refine wE ?_|refine wF ?_|refine wG ?_|refine wK ?_|refine wL ?_|refine wM ?_|refine wN ?_|refine wO ?_|refine wP ?_|refine wQ ?_|refine wR ?_|refine wS ?_|refine wT ?_|refine wU ?_|refine wV ?_|refine wW ?_|refine wX ?_)
                refine Ops.rdS (j - 1) h4 rfl rfl rfl (by omega) (by omega) (by kernel_rfl) (by kernel_rfl) fun pz u2 ok2 cu2 => ?_
                refine Ops.callVE rfl (hcmp _ _ _ _ _ ok1 ok2) ?_
                refine Ops.cmp rfl rfl rfl (fun hs2 => ?_) (fun hs2 => ?_)
                · rw [if_neg (by simp [ltc, hs2])] at e4
                  repeat' (first|refine wA ?_|refine wB ?_|refine wH ?_|refine wI ?_|refine wJ ?_|refine wC ?_|refine wD ?_|refine wE ?_|refine wF ?_|refine wG ?_|refine wK ?_|refine wL ?_|refine wM ?_|refine wN ?_|refine wO ?_|refine wP ?_|refine wQ ?_|refine wR ?_|refine wS ?_|refine wT ?_|refine wU ?_|refine wV ?_|refine wW ?_|refine wX ?_)
                  refine Run.draw [0, 1, 2, 3, 4, 5, 6, 7, 8, 9, 10, 11, 12, 13, 14, 15, 16, 17] Try.checked.mixed (by kernel_rfl) ?_
                  repeat' (first|refine wA ?_|refine wB ?_|refine wH ?_|refine wI ?_|refine wJ ?_|refine wC ?_|refine wD ?_|refine wE ?_|refine wF ?_|refine wG ?_|refine wK ?_|refine wL ?_|refine wM ?_|refine wN ?_|refine wO ?_|refine wP ?_|refine wQ ?_|refine wR ?_|refine wS ?_|refine wT ?_|refine wU ?_|refine wV ?_|refine wW ?_|refine wX ?_)
                  refine Ops.rdS (j - 1) h4 rfl rfl rfl (by omega) (by omega) (by kernel_rfl) (by kernel_rfl) fun pz u5 ok5 cu5 => ?_
                  repeat' (first|refine wA ?_|refine wB ?_|refine wH ?_|refine wI ?_|refine wJ ?_|refine wC ?_|refine wD ?_|refine wE ?_|refine wF ?_|refine wG ?_|refine wK ?_|refine wL ?_|refine wM ?_|refine wN ?_|refine wO ?_|refine wP ?_|refine wQ ?_|refine wR ?_|refine wS ?_|refine wT ?_|refine wU ?_|refine wV ?_|refine wW ?_|refine wX ?_)
                  refine Ops.rdS j h4 rfl rfl rfl rfl (by omega) (by kernel_rfl) (by kernel_rfl) fun pz u6 ok6 cu6 => ?_
                  refine Ops.swS j (j - 1) h4 rfl rfl rfl rfl rfl rfl (by omega) (by omega) (by omega) rfl rfl ok5 ok6 cu5 cu6 (by simp) (by simp) (by simp) (by simp) (by simp) (by kernel_rfl) (by kernel_rfl) (by kernel_rfl) fun pz qz H5 h5 t5 => ?_
                  repeat' (first|refine wA ?_|refine wB ?_|refine wH ?_|refine wI ?_|refine wJ ?_|refine wC ?_|refine wD ?_|refine wE ?_|refine wF ?_|refine wG ?_|refine wK ?_|refine wL ?_|refine wM ?_|refine wN ?_|refine wO ?_|refine wP ?_|refine wQ ?_|refine wR ?_|refine wS ?_|refine wT ?_|refine wU ?_|refine wV ?_|refine wW ?_|refine wX ?_)
                  refine ⟨(j + 1, H5, swp d4 j (j - 1)), by dsimp only; omega, rfl, rfl, by dsimp only; exact (by repeat (first | exact Wk.jk | refine Wk.up rfl ?_)), ?_⟩
                  exact ⟨by dsimp only; omega, h5, t4.trans t5, by dsimp only; rw [size_swp]; exact sz4, e4⟩
                · rw [if_pos (by simp [ltc, hs2])] at e4
                  rw [← e4] at e1
                  repeat' (first|refine wA ?_|refine wB ?_|refine wH ?_|refine wI ?_|refine wJ ?_|refine wC ?_|refine wD ?_|refine wE ?_|refine wF ?_|refine wG ?_|refine wK ?_|refine wL ?_|refine wM ?_|refine wN ?_|refine wO ?_|refine wP ?_|refine wQ ?_|refine wR ?_|refine wS ?_|refine wT ?_|refine wU ?_|refine wV ?_|refine wW ?_|refine wX ?_)
                  rw [e10]
                  refine ⟨(s, i, H4, d4), by dsimp only; omega, rfl, rfl, by dsimp only; exact (by repeat (first | exact Wk.jk | refine Wk.up rfl ?_)), ?_⟩
                  exact ⟨by dsimp only; omega, by dsimp only; omega, by dsimp only; omega, h4, t4, sz4, e1⟩
              · rw [if_neg (by omega)] at e4
                rw [← e4] at e1
                repeat' (first|refine wA ?_|refine wB ?_|refine wH ?_|refine wI ?_|refine wJ ?_|refine wC ?_|refine wD ?_|refine wE ?_|refine wF ?_|refine wG ?_|refine wK ?_|refine wL ?_|refine wM ?_|refine wN ?_|refine wO ?_|refine wP ?_|refine wQ ?_|refine wR ?_|refine wS ?_|refine wT ?_|refine wU ?_|refine wV ?_|refine wW ?_|refine wX ?_)
                rw [e10]
                refine ⟨(s, i, H4, d4), by dsimp only; omega, rfl, rfl, by dsimp only; exact (by repeat (first | exact Wk.jk | refine Wk.up rfl ?_)), ?_⟩
                exact ⟨by dsimp only; omega, by dsimp only; omega, by dsimp only; omega, h4, t4, sz4, e1⟩
            · have ef : fixUp (ltc cf) b i d3 = d3 := by unfold fixUp; rw [if_neg (by omega)]
              rw [ef] at e1
              repeat' (first|refine wA ?_|refine wB ?_|refine wH ?_|refine wI ?_|refine wJ ?_|refine wC ?_|refine wD ?_|refine wE ?_|refine wF ?_|refine wG ?_|refine wK ?_|refine wL ?_|refine wM ?_|refine wN ?_|refine wO ?_|refine wP ?_|refine wQ ?_|refine wR ?_|refine wS ?_|refine wT ?_|refine wU ?_|refine wV ?_|refine wW ?_|refine wX ?_)
              rw [e10]
              refine ⟨(s, i, H3, d3), by dsimp only; omega, rfl, rfl, by dsimp only; exact (by repeat (first | exact Wk.jk | refine Wk.up rfl ?_)), ?_⟩
              exact ⟨by dsimp only; omega, by dsimp only; omega, by dsimp only; omega, h3, t3, sz3, e1⟩
  · have hs0 : s = 0 := by omega
    subst hs0
    repeat' (first|refine wA ?_|refine wB ?_|refine wH ?_|refine wI ?_|refine wJ ?_|refine wC ?_|refine wD ?_|refine wE ?_|refine wF ?_|refine wG ?_|refine wK ?_|refine wL ?_|refine wM ?_|refine wN ?_|refine wO ?_|refine wP ?_|refine wQ ?_|refine wR ?_|refine wS ?_|refine wT ?_|refine wU ?_|refine wV ?_|refine wW ?_|refine wX ?_)
    refine Run.ret ⟨.inl rfl, ResK.tmp rfl (by conv => lhs; whnf) (ResK.nil ?_)⟩
    have e1 : (d1, false) = partialInsertionSort (ltc cf) d a b := e1
    exact ⟨by rw [← e1]; rfl, by rw [← e1]; exact h1, t1⟩

end
end Go.Proofs.Ytefmjpbmdoebaaa

/- The abstract machine, part 25: shifts and bits of any kind of whole number, bytes of a string. -/
set_option linter.unusedVariables false
set_option linter.unusedSimpArgs false
namespace Go.Proofs.Ytefmjpbmdoebaaa
open Go Go.RowKit

section
variable {P : Program} {o : Oper} {ρ : Operand → Value} {H : Hp} {x y : Operand} {k : IntKind} {a b : Int} {t u : TypeId}

theorem run_shl (w : World) {k' : IntKind} (h : 0 ≤ b) : (binOp .shl t (.int k a) (.int k' b)).run P w = .ok (.int k (k.wrap (a * 2 ^ min b.toNat k.bits))) w := by
  simp [binOp, Op.shift, show ¬ b < 0 by omega]

theorem wrap_u64 {x : Int} (h0 : 0 ≤ x) (h1 : x ≤ 18446744073709551615) : IntKind.u64.wrap x = x := by
  simp [IntKind.wrap, IntKind.bits, IntKind.signed]; omega

theorem and_rangeU {m : Int} (h0 : 0 ≤ m) (h1 : m ≤ 18446744073709551615) (a : Int) : 0 ≤ bits .and .u64 a m ∧ bits .and .u64 a m ≤ m := by
  have e : (BitVec.ofInt 64 m).toNat = m.toNat := by
    rw [BitVec.toNat_ofInt]
    have : m % (2 ^ 64 : Nat) = m := Int.emod_eq_of_lt h0 (by omega)
    rw [this]
  have h2 : (BitVec.ofInt 64 a &&& BitVec.ofInt 64 m).toNat ≤ m.toNat := by
    rw [BitVec.toNat_and, e]; exact Nat.and_le_right
  have h3 : bits .and .u64 a m = IntKind.u64.wrap ((BitVec.ofInt 64 a &&& BitVec.ofInt 64 m).toNat : Int) := rfl
  rw [h3, wrap_u64 (by omega) (by omega)]
  omega

end

section
variable {P : Program} {fl : Bool} {all : Array Oper} {rest : List Oper} {n : Nat} {T : Nat → Value} {H H' : Hp} {K : St → Prop} {d : Nat} {ty : TypeId} {ps : String} {af : Array Edge} {x y : Operand} {k : IntKind} {a b : Int} {t u : TypeId}

theorem Ops.xorK (hx : rd T x = .int k a) (hy : rd T y = .int k b) (kk : ∀ r : Int, Ops P fl all rest ⟨n, up T d (.int k r), H⟩ K) : Ops P fl all (⟨some d, .binOp .xor t x y u, ty, ps, af, none⟩ :: rest) ⟨n, T, H⟩ K :=
  .go rfl (fun _ => aev_ints rfl hx hy rfl fun w => run_xor w) (kk _)
theorem Ops.shrK {k' : IntKind} (hx : rd T x = .int k a) (hy : rd T y = .int k' b) (h0 : 0 ≤ b) (kk : ∀ r : Int, Ops P fl all rest ⟨n, up T d (.int k r), H⟩ K) : Ops P fl all (⟨some d, .binOp .shr t x y u, ty, ps, af, none⟩ :: rest) ⟨n, T, H⟩ K :=
  .go rfl (fun _ => aev_ints rfl hx hy rfl fun w => run_shr w h0) (kk _)
theorem Ops.shlK {k' : IntKind} (hx : rd T x = .int k a) (hy : rd T y = .int k' b) (h0 : 0 ≤ b) (kk : ∀ r : Int, Ops P fl all rest ⟨n, up T d (.int k r), H⟩ K) : Ops P fl all (⟨some d, .binOp .shl t x y u, ty, ps, af, none⟩ :: rest) ⟨n, T, H⟩ K :=
  .go rfl (fun _ => aev_ints rfl hx hy rfl fun w => run_shl w h0) (kk _)
/-- x >> s of a number that is not below 0: a quotient. -/
theorem Ops.shrE {k' : IntKind} {s : Nat} (hx : rd T x = .int k a) (hy : rd T y = .int k' s) (h0 : 0 ≤ a) (hs : s ≤ k.bits) (kk : Ops P fl all rest ⟨n, up T d (.int k (a / 2 ^ s)), H⟩ K) : Ops P fl all (⟨some d, .binOp .shr t x y u, ty, ps, af, none⟩ :: rest) ⟨n, T, H⟩ K :=
  .go rfl (fun _ => aev_ints rfl hx hy rfl fun w => run_shr w (by omega)) (by
    have e1 : min (s : Int).toNat k.bits = s := by rw [Int.toNat_natCast]; omega
    have e2 : a.fdiv (2 ^ s) = a / 2 ^ s := Int.fdiv_eq_ediv_of_nonneg _ (Int.le_of_lt (Int.pow_pos (by omega)))
    rw [e1, e2]; exact kk)
/-- 1 << s, as a uint. -/
theorem Ops.shl1 {k' : IntKind} {s : Nat} (hx : rd T x = .int .u64 1) (hy : rd T y = .int k' s) (hs : s < 64) (kk : Ops P fl all rest ⟨n, up T d (.int .u64 (2 ^ s : Nat)), H⟩ K) : Ops P fl all (⟨some d, .binOp .shl t x y u, ty, ps, af, none⟩ :: rest) ⟨n, T, H⟩ K :=
  .go rfl (fun _ => aev_ints rfl hx hy rfl fun w => run_shl w (by omega)) (by
    have e1 : min (s : Int).toNat IntKind.u64.bits = s := by rw [Int.toNat_natCast]; simp [IntKind.bits]; omega
    have hlt : (2 : Nat) ^ s < 2 ^ 64 := Nat.pow_lt_pow_right (by omega) hs
    have hp : (1 : Int) * 2 ^ s = ((2 ^ s : Nat) : Int) := by rw [Int.one_mul]; norm_cast
    rw [e1, hp]
    generalize 2 ^ s = q at hlt kk ⊢
    rw [wrap_u64 (by omega) (by omega)]; exact kk)
theorem Ops.andU (hx : rd T x = .int .u64 a) (hy : rd T y = .int .u64 b) (h0 : 0 ≤ b) (h1 : b ≤ 18446744073709551615) (kk : ∀ r : Int, 0 ≤ r → r ≤ b → Ops P fl all rest ⟨n, up T d (.int .u64 r), H⟩ K) : Ops P fl all (⟨some d, .binOp .and t x y u, ty, ps, af, none⟩ :: rest) ⟨n, T, H⟩ K :=
  .go rfl (fun _ => aev_ints rfl hx hy rfl fun w => run_and w) (kk _ (and_rangeU h0 h1 a).1 (and_rangeU h0 h1 a).2)
theorem Ops.subU (hx : rd T x = .int .u64 a) (hy : rd T y = .int .u64 b) (h0 : 0 ≤ a - b) (h1 : a - b ≤ 18446744073709551615) (kk : Ops P fl all rest ⟨n, up T d (.int .u64 (a - b)), H⟩ K) : Ops P fl all (⟨some d, .binOp .sub t x y u, ty, ps, af, none⟩ :: rest) ⟨n, T, H⟩ K :=
  .go rfl (fun _ => aev_bin rfl hx hy (by show some (Value.int .u64 (IntKind.u64.wrap (a - b))) = _; rw [wrap_u64 h0 h1])) kk

/-- A number as one of another kind, in which it fits. -/
theorem Ops.convK {t1 t2 : TypeId} {k1 k2 : IntKind} (hx : rd T x = .int k1 a) (h1 : intT P t1 k1 = true) (h2 : intT P t2 k2 = true) (hw : k2.wrap a = a) (kk : Ops P fl all rest ⟨n, up T d (.int k2 a), H⟩ K) : Ops P fl all (⟨some d, .convert t1 t2 x, ty, ps, af, none⟩ :: rest) ⟨n, T, H⟩ K :=
  .go rfl (fun H => by have := aev_convert (P := P) (o := ⟨some d, .convert t1 t2 x, ty, ps, af, none⟩) (ρ := rd T) (H := H) rfl (intT_at h1) (intT_at h2) hx; rw [hw] at this; exact this) kk

/-- s[j] -/
theorem Ops.strIdx {s : ByteArray} {j : Int} (hx : rd T x = .string s) (hy : rd T y = .int k j) (ht : P.underlying t = some .string) (h0 : 0 ≤ j) (h1 : j.toNat < s.size) (kk : Ops P fl all rest ⟨n, up T d (.int .u8 (s[j.toNat]'h1).toNat), H⟩ K) : Ops P fl all (⟨some d, .index t x y, ty, ps, af, none⟩ :: rest) ⟨n, T, H⟩ K :=
  .go rfl (fun _ => aev_index rfl ht hx hy h0 h1) kk

end

theorem wrap_u8 {x : Int} (h0 : 0 ≤ x) (h1 : x ≤ 255) : IntKind.u8.wrap x = x := by
  simp [IntKind.wrap, IntKind.bits, IntKind.signed]; omega
end Go.Proofs.Ytefmjpbmdoebaaa

/- Sorting rows of rows: the pivot; the patterns that are broken. -/
set_option linter.unusedVariables false
namespace Go.Proofs.Ytefmjpbmdoebaaa
open Go Go.RowKit Go.Sort

/-- A variable of the call's own that holds a whole number. -/
def Vi (H0 : Hp) (q : IntKind) (H : Hp) (p : Value) : Prop := Calm H0 H ∧ ∃ s : Int, Po H0.nxt H p [.int q s]

theorem Vi.ptr {H0 H : Hp} {q : IntKind} {p : Value} (h : Vi H0 q H p) : ∃ id off, p = .pointer (some ⟨id, off, none⟩) := let ⟨_, _, id, ob, h1, _⟩ := h; ⟨id, 0, h1⟩

section
variable {g : FuncId} {cf : LF → LF → Int} (hcmp : ∀ (H : Hp) (u1 u2 : Value) (a b : LF), (cF cI 3).ok H [u1] a → (cF cI 3).ok H [u2] b → acall Try.prog g [u1, u2] H (.int .i64 (cf a b)) H)
  {H0 H : Hp} {v p : Value} {d : Array LF} {k r a b c : Nat}
include hcmp

theorem order2_ok (h : SR (elF 3) 24 k r H0 v d) (hp : Vi H0 .i64 H p) (ha : a < d.size) (hb : b < d.size) :
    CallK Try.prog 125 [v, .int .i64 (a : Int), .int .i64 (b : Int), p, .func (.func g) #[] #[]] H (fun res H' => Vi H0 .i64 H' p ∧ ∃ x y : Nat, res = .tuple #[.int .i64 (x : Int), .int .i64 (y : Int)] ∧ ((x = a ∧ y = b) ∨ (x = b ∧ y = a))) := by
  have h1 := h.calm hp.1
  have hpt := hp.ptr
  refine (CallK.enter Try.func125 rfl rfl Try.ntmps125 Try.results125 rfl ?_)
  repeat' (first|refine wA ?_|refine wB ?_|refine wH ?_|refine wI ?_|refine wJ ?_|refine wC ?_|refine wD ?_|refine wE ?_|refine wF ?_|refine wG ?_|refine wK ?_|refine wL ?_|refine wM ?_|refine wN ?_|refine wO ?_|refine wP ?_|refine wQ ?_|refine wR ?_|refine wS ?_|refine wT ?_|refine wU ?_|refine wV ?_|refine wW ?_|refine wX ?_)
  refine Run.draw [0, 1, 2, 3, 4, 5, 6, 7, 8, 9, 10] Try.checked.mixed (by kernel_rfl) ?_
  repeat' (first|refine wA ?_|refine wB ?_|refine wH ?_|refine wI ?_|refine wJ ?_|refine wC ?_|refine wD ?_|refine wE ?_|refine wF ?_|refine wG ?_|refine wK ?_|refine wL ?_|refine wM ?_|refine wN ?_|refine wO ?_|refine wP ?_|refine wQ ?_|refine wR ?_|refine wS ?_|refine wT ?_|refine wU ?_|refine wV ?_|refine wW ?_|refine wX ?_)
  refine Ops.rdS b h1 rfl rfl rfl rfl (by omega) (by kernel_rfl) (by kernel_rfl) fun pz u1 ok1 cu1 => ?_
  repeat' (first|refine wA ?_|refine wB ?_|refine wH ?_|refine wI ?_|refine wJ ?_|refine wC ?_|refine wD ?_|refine wE ?_|refine wF ?_|refine wG ?_|refine wK ?_|refine wL ?_|refine wM ?_|refine wN ?_|refine wO ?_|refine wP ?_|refine wQ ?_|refine wR ?_|refine wS ?_|refine wT ?_|refine wU ?_|refine wV ?_|refine wW ?_|refine wX ?_)
  refine Ops.rdS a h1 rfl rfl rfl rfl (by omega) (by kernel_rfl) (by kernel_rfl) fun pz u2 ok2 cu2 => ?_
  refine Ops.callVE rfl (hcmp _ _ _ _ _ ok1 ok2) ?_
  refine Ops.cmp rfl rfl rfl (fun hs2 => ?_) (fun hs2 => ?_)
  · obtain ⟨c0, s, o⟩ := hp
    obtain ⟨r', hr', t'⟩ := o.rt
    repeat' (first|refine wA ?_|refine wB ?_|refine wH ?_|refine wI ?_|refine wJ ?_|refine wC ?_|refine wD ?_|refine wE ?_|refine wF ?_|refine wG ?_|refine wK ?_|refine wL ?_|refine wM ?_|refine wN ?_|refine wO ?_|refine wP ?_|refine wQ ?_|refine wR ?_|refine wS ?_|refine wT ?_|refine wU ?_|refine wV ?_|refine wW ?_|refine wX ?_)
    refine Ops.nilc rfl hpt ?_
    refine Ops.load1 o.pt (by kernel_rfl) rfl ?_
    refine Ops.addA rfl rfl fun s2 => ?_
    refine Ops.nilc rfl hpt ?_
    refine Ops.storeS (ds := [.int .i64 s2]) o t' rfl (by kernel_rfl) rfl rfl fun H1 m1 o1 => ?_
    repeat' (first|refine wA ?_|refine wB ?_|refine wH ?_|refine wI ?_|refine wJ ?_|refine wC ?_|refine wD ?_|refine wE ?_|refine wF ?_|refine wG ?_|refine wK ?_|refine wL ?_|refine wM ?_|refine wN ?_|refine wO ?_|refine wP ?_|refine wQ ?_|refine wR ?_|refine wS ?_|refine wT ?_|refine wU ?_|refine wV ?_|refine wW ?_|refine wX ?_)
    refine Run.ret ⟨.inl rfl, ResK.tmp rfl (by conv => lhs; whnf) (ResK.tmp rfl (by conv => lhs; whnf) (ResK.nil ?_))⟩
    exact ⟨⟨m1.calm c0 hr', s2, o1⟩, b, a, rfl, .inr ⟨rfl, rfl⟩⟩
  · repeat' (first|refine wA ?_|refine wB ?_|refine wH ?_|refine wI ?_|refine wJ ?_|refine wC ?_|refine wD ?_|refine wE ?_|refine wF ?_|refine wG ?_|refine wK ?_|refine wL ?_|refine wM ?_|refine wN ?_|refine wO ?_|refine wP ?_|refine wQ ?_|refine wR ?_|refine wS ?_|refine wT ?_|refine wU ?_|refine wV ?_|refine wW ?_|refine wX ?_)
    refine Run.ret ⟨.inl rfl, ResK.tmp rfl (by conv => lhs; whnf) (ResK.tmp rfl (by conv => lhs; whnf) (ResK.nil ?_))⟩
    exact ⟨hp, a, b, rfl, .inl ⟨rfl, rfl⟩⟩

theorem median_ok (h : SR (elF 3) 24 k r H0 v d) (hp : Vi H0 .i64 H p) (ha : a < d.size) (hb : b < d.size) (hc : c < d.size) :
    CallK Try.prog 124 [v, .int .i64 (a : Int), .int .i64 (b : Int), .int .i64 (c : Int), p, .func (.func g) #[] #[]] H (fun res H' => Vi H0 .i64 H' p ∧ ∃ x : Nat, res = .int .i64 (x : Int) ∧ (x = a ∨ x = b ∨ x = c)) := by
  refine (CallK.enter Try.func124 rfl rfl Try.ntmps124 Try.results124 rfl ?_)
  repeat' (first|refine wA ?_|refine wB ?_|refine wH ?_|refine wI ?_|refine wJ ?_|refine wC ?_|refine wD ?_|refine wE ?_|refine wF ?_|refine wG ?_|refine wK ?_|refine wL ?_|refine wM ?_|refine wN ?_|refine wO ?_|refine wP ?_|refine wQ ?_|refine wR ?_|refine wS ?_|refine wT ?_|refine wU ?_|refine wV ?_|refine wW ?_|refine wX ?_)
  refine Ops.call (order2_ok hcmp h hp ha hb) (fun _ _ _ hf => by cases hf) fun r1 H1 => ?_
  rintro ⟨p1, x1, y1, rfl, e1⟩
  repeat' (first|refine wA ?_|refine wB ?_|refine wH ?_|refine wI ?_|refine wJ ?_|refine wC ?_|refine wD ?_|refine wE ?_|refine wF ?_|refine wG ?_|refine wK ?_|refine wL ?_|refine wM ?_|refine wN ?_|refine wO ?_|refine wP ?_|refine wQ ?_|refine wR ?_|refine wS ?_|refine wT ?_|refine wU ?_|refine wV ?_|refine wW ?_|refine wX ?_)
  refine Ops.call (order2_ok hcmp (a := y1) (b := c) h p1 (by omega) (by omega)) (fun _ _ _ hf => by cases hf) fun r2 H2 => ?_
  rintro ⟨p2, x2, y2, rfl, e2⟩
  repeat' (first|refine wA ?_|refine wB ?_|refine wH ?_|refine wI ?_|refine wJ ?_|refine wC ?_|refine wD ?_|refine wE ?_|refine wF ?_|refine wG ?_|refine wK ?_|refine wL ?_|refine wM ?_|refine wN ?_|refine wO ?_|refine wP ?_|refine wQ ?_|refine wR ?_|refine wS ?_|refine wT ?_|refine wU ?_|refine wV ?_|refine wW ?_|refine wX ?_)
  refine Ops.call (order2_ok hcmp (a := x1) (b := x2) h p2 (by omega) (by omega)) (fun _ _ _ hf => by cases hf) fun r3 H3 => ?_
  rintro ⟨p3, x3, y3, rfl, e3⟩
  repeat' (first|refine wA ?_|refine wB ?_|refine wH ?_|refine wI ?_|refine wJ ?_|refine wC ?_|refine wD ?_|refine wE ?_|refine wF ?_|refine wG ?_|refine wK ?_|refine wL ?_|refine wM ?_|refine wN ?_|refine wO ?_|refine wP ?_|refine wQ ?_|refine wR ?_|refine wS ?_|refine wT ?_|refine wU ?_|refine wV ?_|refine wW ?_|refine wX ?_)
  refine Run.ret ⟨.inl rfl, ResK.tmp rfl (by conv => lhs; whnf) (ResK.nil ?_)⟩
  exact ⟨p3, y3, rfl, by omega⟩

theorem medianAdjacent_ok (h : SR (elF 3) 24 k r H0 v d) (hp : Vi H0 .i64 H p) (ha : 0 < a) (hb : a + 1 < d.size) (hn : d.size ≤ 1099511627776) :
    CallK Try.prog 123 [v, .int .i64 (a : Int), p, .func (.func g) #[] #[]] H (fun res H' => Vi H0 .i64 H' p ∧ ∃ x : Nat, res = .int .i64 (x : Int) ∧ a ≤ x + 1 ∧ x ≤ a + 1) := by
  refine (CallK.enter Try.func123 rfl rfl Try.ntmps123 Try.results123 rfl ?_)
  repeat' (first|refine wA ?_|refine wB ?_|refine wH ?_|refine wI ?_|refine wJ ?_|refine wC ?_|refine wD ?_|refine wE ?_|refine wF ?_|refine wG ?_|refine wK ?_|refine wL ?_|refine wM ?_|refine wN ?_|refine wO ?_|refine wP ?_|refine wQ ?_|refine wR ?_|refine wS ?_|refine wT ?_|refine wU ?_|refine wV ?_|refine wW ?_|refine wX ?_)
  have e8 : (a : Int) - 1 = ((a - 1 : Nat) : Int) := by omega
  have e9 : (a : Int) + 1 = ((a + 1 : Nat) : Int) := by omega
  rw [e8, e9]
  refine Ops.call (median_ok hcmp (a := a - 1) (b := a) (c := a + 1) h hp (by omega) (by omega) (by omega)) (fun _ _ _ hf => by cases hf) fun r1 H1 => ?_
  rintro ⟨p1, x1, rfl, e1⟩
  repeat' (first|refine wA ?_|refine wB ?_|refine wH ?_|refine wI ?_|refine wJ ?_|refine wC ?_|refine wD ?_|refine wE ?_|refine wF ?_|refine wG ?_|refine wK ?_|refine wL ?_|refine wM ?_|refine wN ?_|refine wO ?_|refine wP ?_|refine wQ ?_|refine wR ?_|refine wS ?_|refine wT ?_|refine wU ?_|refine wV ?_|refine wW ?_|refine wX ?_)
  refine Run.ret ⟨.inl rfl, ResK.tmp rfl (by conv => lhs; whnf) (ResK.nil ?_)⟩
  exact ⟨p1, x1, rfl, by omega, by omega⟩

theorem choosePivot_ok (h : SR (elF 3) 24 k r H0 v d) (hb : b ≤ d.size) (ha : a + 12 < b) (hn : d.size ≤ 1099511627776) :
    CallK Try.prog 113 [v, .int .i64 (a : Int), .int .i64 (b : Int), .func (.func g) #[] #[]] H0 (fun res H' => Calm H0 H' ∧ ∃ (x : Nat) (h : Int), res = .tuple #[.int .i64 (x : Int), .int .i64 h] ∧ a ≤ x ∧ x < b) := by
  refine (CallK.enter Try.func113 rfl rfl Try.ntmps113 Try.results113 rfl ?_)
  repeat' (first|refine wA ?_|refine wB ?_|refine wH ?_|refine wI ?_|refine wJ ?_|refine wC ?_|refine wD ?_|refine wE ?_|refine wF ?_|refine wG ?_|refine wK ?_|refine wL ?_|refine wM ?_|refine wN ?_|refine wO ?_|refine wP ?_|refine wQ ?_|refine wR ?_|refine wS ?_|refine wT ?_|refine wU ?_|refine wV ?_|refine wW ?_|refine wX ?_)
  refine Ops.alloc H0.nxt (Nat.le_refl _) (z0 := .int .i64 0) (by kernel_rfl) rfl (by decide) fun p H1 o1 c1 ap1 => ?_
  have hp : Vi H0 .i64 H1 p := ⟨c1, 0, o1⟩
  repeat' (first|refine wA ?_|refine wB ?_|refine wH ?_|refine wI ?_|refine wJ ?_|refine wC ?_|refine wD ?_|refine wE ?_|refine wF ?_|refine wG ?_|refine wK ?_|refine wL ?_|refine wM ?_|refine wN ?_|refine wO ?_|refine wP ?_|refine wQ ?_|refine wR ?_|refine wS ?_|refine wT ?_|refine wU ?_|refine wV ?_|refine wW ?_|refine wX ?_)
  refine Ops.quo rfl rfl (by omega) (by omega) (by omega) ?_
  refine Ops.mul rfl rfl (by omega) (by omega) ?_
  repeat' (first|refine wA ?_|refine wB ?_|refine wH ?_|refine wI ?_|refine wJ ?_|refine wC ?_|refine wD ?_|refine wE ?_|refine wF ?_|refine wG ?_|refine wK ?_|refine wL ?_|refine wM ?_|refine wN ?_|refine wO ?_|refine wP ?_|refine wQ ?_|refine wR ?_|refine wS ?_|refine wT ?_|refine wU ?_|refine wV ?_|refine wW ?_|refine wX ?_)
  refine Ops.quo rfl rfl (by omega) (by omega) (by omega) ?_
  refine Ops.mul rfl rfl (by omega) (by omega) ?_
  repeat' (first|refine wA ?_|refine wB ?_|refine wH ?_|refine wI ?_|refine wJ ?_|refine wC ?_|refine wD ?_|refine wE ?_|refine wF ?_|refine wG ?_|refine wK ?_|refine wL ?_|refine wM ?_|refine wN ?_|refine wO ?_|refine wP ?_|refine wQ ?_|refine wR ?_|refine wS ?_|refine wT ?_|refine wU ?_|refine wV ?_|refine wW ?_|refine wX ?_)
  refine Ops.quo rfl rfl (by omega) (by omega) (by omega) ?_
  refine Ops.mul rfl rfl (by omega) (by omega) ?_
  repeat' (first|refine wA ?_|refine wB ?_|refine wH ?_|refine wI ?_|refine wJ ?_|refine wC ?_|refine wD ?_|refine wE ?_|refine wF ?_|refine wG ?_|refine wK ?_|refine wL ?_|refine wM ?_|refine wN ?_|refine wO ?_|refine wP ?_|refine wQ ?_|refine wR ?_|refine wS ?_|refine wT ?_|refine wU ?_|refine wV ?_|refine wW ?_|refine wX ?_)
  obtain ⟨l, hl⟩ : ∃ l : Nat, l = (b - a) / 4 := ⟨_, rfl⟩
  have e1 : (a : Int) + ((b : Int) - a) / 4 * 1 = ((a + l : Nat) : Int) := by omega
  have e2 : (a : Int) + ((b : Int) - a) / 4 * 2 = ((a + 2 * l : Nat) : Int) := by omega
  have e3 : (a : Int) + ((b : Int) - a) / 4 * 3 = ((a + 3 * l : Nat) : Int) := by omega
  rw [e1, e2, e3]
  refine Ops.cmp rfl rfl rfl (fun hc1 => ?_) (fun hc1 => ?_)
  · refine Ops.nil ?_
    refine Run.cond_t rfl rfl ?_
    refine Run.seq ?_
    refine Run.join (β := Nat × Nat × Nat × Hp) (fun y => up (up (up (up (up (up jk 0 v) 3 (.func (.func g) #[] #[])) 11 p) 12 (.int .i64 (y.1 : Int))) 13 (.int .i64 (y.2.1 : Int))) 14 (.int .i64 (y.2.2.1 : Int))) (fun y => y.2.2.2) (fun y => Vi H0 .i64 y.2.2.2 p ∧ a ≤ y.1 ∧ y.1 < b ∧ a ≤ y.2.1 ∧ y.2.1 < b ∧ a ≤ y.2.2.1 ∧ y.2.2.1 < b) ?_ ?_
    · repeat' (first|refine wA ?_|refine wB ?_|refine wH ?_|refine wI ?_|refine wJ ?_|refine wC ?_|refine wD ?_|refine wE ?_|refine wF ?_|refine wG ?_|refine wK ?_|refine wL ?_|refine wM ?_|refine wN ?_|refine wO ?_|refine wP ?_|refine wQ ?_|refine wR ?_|refine wS ?_|refine wT ?_|refine wU ?_|refine wV ?_|refine wW ?_|refine wX ?_)
      refine Ops.cmp rfl rfl rfl (fun hc2 => ?_) (fun hc2 => ?_)
      · repeat' (first|refine wA ?_|refine wB ?_|refine wH ?_|refine wI ?_|refine wJ ?_|refine wC ?_|refine wD ?_|refine wE ?_|refine wF ?_|refine wG ?_|refine wK ?_|refine wL ?_|refine wM ?_|refine wN ?_|refine wO ?_|refine wP ?_|refine wQ ?_|refine wR ?_|refine wS ?_|refine wT ?_|refine wU ?_|refine wV ?_|refine wW ?_|refine wX ?_)
        refine Ops.call (medianAdjacent_ok hcmp (a := a + l) h hp (by omega) (by omega) hn) (fun _ _ _ hf => by cases hf) fun r2 H2 => ?_
        rintro ⟨p2, x2, rfl, f2, g2⟩
        repeat' (first|refine wA ?_|refine wB ?_|refine wH ?_|refine wI ?_|refine wJ ?_|refine wC ?_|refine wD ?_|refine wE ?_|refine wF ?_|refine wG ?_|refine wK ?_|refine wL ?_|refine wM ?_|refine wN ?_|refine wO ?_|refine wP ?_|refine wQ ?_|refine wR ?_|refine wS ?_|refine wT ?_|refine wU ?_|refine wV ?_|refine wW ?_|refine wX ?_)
        refine Ops.call (medianAdjacent_ok hcmp (a := a + 2 * l) h p2 (by omega) (by omega) hn) (fun _ _ _ hf => by cases hf) fun r3 H3 => ?_
        rintro ⟨p3, x3, rfl, f3, g3⟩
        repeat' (first|refine wA ?_|refine wB ?_|refine wH ?_|refine wI ?_|refine wJ ?_|refine wC ?_|refine wD ?_|refine wE ?_|refine wF ?_|refine wG ?_|refine wK ?_|refine wL ?_|refine wM ?_|refine wN ?_|refine wO ?_|refine wP ?_|refine wQ ?_|refine wR ?_|refine wS ?_|refine wT ?_|refine wU ?_|refine wV ?_|refine wW ?_|refine wX ?_)
        refine Ops.call (medianAdjacent_ok hcmp (a := a + 3 * l) h p3 (by omega) (by omega) hn) (fun _ _ _ hf => by cases hf) fun r4 H4 => ?_
        rintro ⟨p4, x4, rfl, f4, g4⟩
        repeat' (first|refine wA ?_|refine wB ?_|refine wH ?_|refine wI ?_|refine wJ ?_|refine wC ?_|refine wD ?_|refine wE ?_|refine wF ?_|refine wG ?_|refine wK ?_|refine wL ?_|refine wM ?_|refine wN ?_|refine wO ?_|refine wP ?_|refine wQ ?_|refine wR ?_|refine wS ?_|refine wT ?_|refine wU ?_|refine wV ?_|refine wW ?_|refine wX ?_)
        refine ⟨(x2, x3, x4, H4), rfl, rfl, by dsimp only; exact (by repeat (first | exact Wk.jk | refine Wk.up rfl ?_)), ?_⟩
        exact ⟨p4, by dsimp only; omega, by dsimp only; omega, by dsimp only; omega, by dsimp only; omega, by dsimp only; omega, by dsimp only; omega⟩
      · repeat' (first|refine wA ?_|refine wB ?_|refine wH ?_|refine wI ?_|refine wJ ?_|refine wC ?_|refine wD ?_|refine wE ?_|refine wF ?_|refine wG ?_|refine wK ?_|refine wL ?_|refine wM ?_|refine wN ?_|refine wO ?_|refine wP ?_|refine wQ ?_|refine wR ?_|refine wS ?_|refine wT ?_|refine wU ?_|refine wV ?_|refine wW ?_|refine wX ?_)
        refine ⟨(a + l, a + 2 * l, a + 3 * l, H1), rfl, rfl, by dsimp only; exact (by repeat (first | exact Wk.jk | refine Wk.up rfl ?_)), ?_⟩
        exact ⟨hp, by dsimp only; omega, by dsimp only; omega, by dsimp only; omega, by dsimp only; omega, by dsimp only; omega, by dsimp only; omega⟩
    · rintro ⟨x2, x3, x4, H4⟩ ⟨p4, q1, q2, q3, q4, q5, q6⟩
      dsimp only at p4 q1 q2 q3 q4 q5 q6
      dsimp only
      repeat' (first|refine wA ?_|refine wB ?_|refine wH ?_|refine wI ?_|refine wJ ?_|refine wC ?_|refine wD ?_|refine wE ?_|refine wF ?_|refine wG ?_|refine wK ?_|refine wL ?_|refine wM ?_|refine wN ?_|refine wO ?_|refine wP ?_|refine wQ ?_|refine wR ?_|refine wS ?_|refine wT ?_|refine wU ?_|refine wV ?_|refine wW ?_|refine wX ?_)
      refine Ops.call (median_ok hcmp (a := x2) (b := x3) (c := x4) h p4 (by omega) (by omega) (by omega)) (fun _ _ _ hf => by cases hf) fun r5 H5 => ?_
      rintro ⟨p5, x5, rfl, e5⟩
      have hx5 : a ≤ x5 ∧ x5 < b := by omega
      obtain ⟨c5, s5, o5⟩ := p5
      repeat' (first|refine wA ?_|refine wB ?_|refine wH ?_|refine wI ?_|refine wJ ?_|refine wC ?_|refine wD ?_|refine wE ?_|refine wF ?_|refine wG ?_|refine wK ?_|refine wL ?_|refine wM ?_|refine wN ?_|refine wO ?_|refine wP ?_|refine wQ ?_|refine wR ?_|refine wS ?_|refine wT ?_|refine wU ?_|refine wV ?_|refine wW ?_|refine wX ?_)
      refine Ops.load1 o5.pt (by kernel_rfl) rfl ?_
      repeat' (first|refine wA ?_|refine wB ?_|refine wH ?_|refine wI ?_|refine wJ ?_|refine wC ?_|refine wD ?_|refine wE ?_|refine wF ?_|refine wG ?_|refine wK ?_|refine wL ?_|refine wM ?_|refine wN ?_|refine wO ?_|refine wP ?_|refine wQ ?_|refine wR ?_|refine wS ?_|refine wT ?_|refine wU ?_|refine wV ?_|refine wW ?_|refine wX ?_)
      refine Ops.cmp rfl rfl rfl (fun hc3 => ?_) (fun hc3 => ?_)
      · repeat' (first|refine wA ?_|refine wB ?_|refine wH ?_|refine wI ?_|refine wJ ?_|refine wC ?_|refine wD ?_|refine wE ?_|refine wF ?_|refine wG ?_|refine wK ?_|refine wL ?_|refine wM ?_|refine wN ?_|refine wO ?_|refine wP ?_|refine wQ ?_|refine wR ?_|refine wS ?_|refine wT ?_|refine wU ?_|refine wV ?_|refine wW ?_|refine wX ?_)
        refine Run.ret ⟨.inl rfl, ResK.tmp rfl (by conv => lhs; whnf) (ResK.tmp rfl (by conv => lhs; whnf) (ResK.nil ?_))⟩
        exact ⟨c5, x5, 1, rfl, hx5⟩
      · repeat' (first|refine wA ?_|refine wB ?_|refine wH ?_|refine wI ?_|refine wJ ?_|refine wC ?_|refine wD ?_|refine wE ?_|refine wF ?_|refine wG ?_|refine wK ?_|refine wL ?_|refine wM ?_|refine wN ?_|refine wO ?_|refine wP ?_|refine wQ ?_|refine wR ?_|refine wS ?_|refine wT ?_|refine wU ?_|refine wV ?_|refine wW ?_|refine wX ?_)
        refine Ops.cmp rfl rfl rfl (fun hc4 => ?_) (fun hc4 => ?_)
        · repeat' (first|refine wA ?_|refine wB ?_|refine wH ?_|refine wI ?_|refine wJ ?_|refine wC ?_|refine wD ?_|refine wE ?_|refine wF ?_|refine wG ?_|refine wK ?_|refine wL ?_|refine wM ?_|refine wN ?_|refine wO ?_|refine wP ?_|refine wQ ?_|refine wR ?_|refine wS ?_|refine wT ?_|refine wU ?_|refine wV ?_|refine wW ?_|refine wX ?_)
          refine Run.ret ⟨.inl rfl, ResK.tmp rfl (by conv => lhs; whnf) (ResK.tmp rfl (by conv => lhs; whnf) (ResK.nil ?_))⟩
          exact ⟨c5, x5, 2, rfl, hx5⟩
        · repeat' (first|refine wA ?_|refine wB ?_|refine wH ?_|refine wI ?_|refine wJ ?_|refine wC ?_|refine wD ?_|refine wE ?_|refine wF ?_|refine wG ?_|refine wK ?_|refine wL ?_|refine wM ?_|refine wN ?_|refine wO ?_|refine wP ?_|refine wQ ?_|refine wR ?_|refine wS ?_|refine wT ?_|refine wU ?_|refine wV ?_|refine wW ?_|refine wX ?_)
          refine Run.ret ⟨.inl rfl, ResK.tmp rfl (by conv => lhs; whnf) (ResK.tmp rfl (by conv => lhs; whnf) (ResK.nil ?_))⟩
          exact ⟨c5, x5, 0, rfl, hx5⟩
  · omega

end
end Go.Proofs.Ytefmjpbmdoebaaa

/- Lengths in bits; the patterns that a sort breaks. -/
set_option linter.unusedVariables false
namespace Go.Proofs.Ytefmjpbmdoebaaa
open Go Go.RowKit Go.Sort

theorem bitsLen_shift {n s : Nat} (h : 2 ^ s ≤ n) : bitsLen n = bitsLen (n / 2 ^ s) + s := by
  have hp : 0 < 2 ^ s := Nat.pow_pos (by omega)
  have key : ∀ m, bitsLen n ≤ m + s ↔ bitsLen (n / 2 ^ s) ≤ m := fun m => by
    rw [bitsLen_le_iff, bitsLen_le_iff, Nat.div_lt_iff_lt_mul hp, Nat.pow_add]
  have h1 := (key (bitsLen (n / 2 ^ s))).2 (Nat.le_refl _)
  have hge : s ≤ bitsLen n := by
    rcases Nat.lt_or_ge (bitsLen n) s with h2 | h2
    · have := (bitsLen_le_iff n (bitsLen n)).1 (Nat.le_refl _)
      have := Nat.pow_lt_pow_right (show 1 < 2 by omega) h2
      omega
    · exact h2
  have h2 := (key (bitsLen n - s)).1 (by omega)
  omega

theorem strIdx_table {P : Program} {fl : Bool} {all : Array Oper} {rest : List Oper} {n : Nat} {T : Nat → Value} {H : Hp} {K : St → Prop} {d : Nat} {ty : TypeId} {ps : String} {af : Array Edge} {y : Operand} {k : IntKind} {t : TypeId} {s : ByteArray} {j : Nat} (hs : s.size = 256 ∧ (List.range 256).all (fun j => (s.data.getD j 0).toNat == bitsLen j) = true) (hy : rd T y = .int k j) (ht : P.underlying t = some .string) (hj : j < 256) (kk : Ops P fl all rest ⟨n, up T d (.int .u8 (bitsLen j : Nat)), H⟩ K) : Ops P fl all (⟨some d, .index t (.const (.string s)) y, ty, ps, af, none⟩ :: rest) ⟨n, T, H⟩ K := by
  have hsz : (j : Int).toNat < s.size := by rw [hs.1]; omega
  refine Ops.strIdx rfl hy ht (by omega) hsz ?_
  have h1 := List.all_eq_true.1 hs.2 j (List.mem_range.2 hj)
  have h2 : (s[(j : Int).toNat]'hsz).toNat = bitsLen j := by
    have h3 : (s.data.getD j 0).toNat = bitsLen j := by simpa using h1
    have h4 : j < s.data.size := by have := hs.1; show j < s.size; omega
    rw [← h3, Array.getD_eq_getD_getElem?, Array.getElem?_eq_getElem h4]
    rfl
  rw [h2]; exact kk

theorem Len64_ok {H : Hp} {x : Nat} (hx : x < 18446744073709551616) : acall Try.prog 119 [.int .u64 (x : Int)] H (.int .i64 (bitsLen x : Nat)) H := by
  refine CallK.eq (CallK.enter Try.func119 rfl rfl Try.ntmps119 Try.results119 rfl ?_)
  refine Run.seq ?_
  refine Run.region (by kernel_rfl) ?_
  refine Ops.assign (by conv => lhs; whnf) ?_
  refine Ops.nil ?_
  refine Run.seq ?_
  refine Run.join (β := Nat × Nat) (fun y => up (up jk 0 (.int .u64 (y.1 : Int))) 2 (.int .i64 (y.2 : Int))) (fun _ => H) (fun y => y.1 < 4294967296 ∧ bitsLen x = bitsLen y.1 + y.2 ∧ y.2 ≤ 32) ?_ ?_
  · repeat' (first|refine wA ?_|refine wB ?_|refine wH ?_|refine wI ?_|refine wJ ?_|refine wC ?_|refine wD ?_|refine wE ?_|refine wF ?_|refine wG ?_|refine wK ?_|refine wL ?_|refine wM ?_|refine wN ?_|refine wO ?_|refine wP ?_|refine wQ ?_|refine wR ?_|refine wS ?_|refine wT ?_|refine wU ?_|refine wV ?_|refine wW ?_|refine wX ?_)
    refine Ops.cmp rfl rfl rfl (fun hc => ?_) (fun hc => ?_)
    · repeat' (first|refine wA ?_|refine wB ?_|refine wH ?_|refine wI ?_|refine wJ ?_|refine wC ?_|refine wD ?_|refine wE ?_|refine wF ?_|refine wG ?_|refine wK ?_|refine wL ?_|refine wM ?_|refine wN ?_|refine wO ?_|refine wP ?_|refine wQ ?_|refine wR ?_|refine wS ?_|refine wT ?_|refine wU ?_|refine wV ?_|refine wW ?_|refine wX ?_)
      refine Ops.shrE (s := 32) rfl rfl (by omega) (by decide) ?_
      repeat' (first|refine wA ?_|refine wB ?_|refine wH ?_|refine wI ?_|refine wJ ?_|refine wC ?_|refine wD ?_|refine wE ?_|refine wF ?_|refine wG ?_|refine wK ?_|refine wL ?_|refine wM ?_|refine wN ?_|refine wO ?_|refine wP ?_|refine wQ ?_|refine wR ?_|refine wS ?_|refine wT ?_|refine wU ?_|refine wV ?_|refine wW ?_|refine wX ?_)
      have e : (x : Int) / 2 ^ 32 = ((x / 2 ^ 32 : Nat) : Int) := by omega
      rw [e]
      refine ⟨(x / 2 ^ 32, 32), rfl, rfl, by dsimp only; exact (by repeat (first | exact Wk.jk | refine Wk.up rfl ?_)), ?_⟩
      exact ⟨by dsimp only; omega, bitsLen_shift (s := 32) (by omega), by dsimp only; omega⟩
    · repeat' (first|refine wA ?_|refine wB ?_|refine wH ?_|refine wI ?_|refine wJ ?_|refine wC ?_|refine wD ?_|refine wE ?_|refine wF ?_|refine wG ?_|refine wK ?_|refine wL ?_|refine wM ?_|refine wN ?_|refine wO ?_|refine wP ?_|refine wQ ?_|refine wR ?_|refine wS ?_|refine wT ?_|refine wU ?_|refine wV ?_|refine wW ?_|refine wX ?_)
      refine ⟨(x, 0), rfl, rfl, by dsimp only; exact (by repeat (first | exact Wk.jk | refine Wk.up rfl ?_)), ?_⟩
      exact ⟨by dsimp only; omega, rfl, by dsimp only; omega⟩
  rintro ⟨x1, n1⟩ ⟨h1, e1, m1⟩
  dsimp only at h1 e1 m1
  dsimp only
  refine Run.seq ?_
  refine Run.join (β := Nat × Nat) (fun y => up (up jk 0 (.int .u64 (y.1 : Int))) 2 (.int .i64 (y.2 : Int))) (fun _ => H) (fun y => y.1 < 65536 ∧ bitsLen x = bitsLen y.1 + y.2 ∧ y.2 ≤ 48) ?_ ?_
  · repeat' (first|refine wA ?_|refine wB ?_|refine wH ?_|refine wI ?_|refine wJ ?_|refine wC ?_|refine wD ?_|refine wE ?_|refine wF ?_|refine wG ?_|refine wK ?_|refine wL ?_|refine wM ?_|refine wN ?_|refine wO ?_|refine wP ?_|refine wQ ?_|refine wR ?_|refine wS ?_|refine wT ?_|refine wU ?_|refine wV ?_|refine wW ?_|refine wX ?_)
    refine Ops.cmp rfl rfl rfl (fun hc => ?_) (fun hc => ?_)
    · repeat' (first|refine wA ?_|refine wB ?_|refine wH ?_|refine wI ?_|refine wJ ?_|refine wC ?_|refine wD ?_|refine wE ?_|refine wF ?_|refine wG ?_|refine wK ?_|refine wL ?_|refine wM ?_|refine wN ?_|refine wO ?_|refine wP ?_|refine wQ ?_|refine wR ?_|refine wS ?_|refine wT ?_|refine wU ?_|refine wV ?_|refine wW ?_|refine wX ?_)
      refine Ops.shrE (s := 16) rfl rfl (by omega) (by decide) ?_
      repeat' (first|refine wA ?_|refine wB ?_|refine wH ?_|refine wI ?_|refine wJ ?_|refine wC ?_|refine wD ?_|refine wE ?_|refine wF ?_|refine wG ?_|refine wK ?_|refine wL ?_|refine wM ?_|refine wN ?_|refine wO ?_|refine wP ?_|refine wQ ?_|refine wR ?_|refine wS ?_|refine wT ?_|refine wU ?_|refine wV ?_|refine wW ?_|refine wX ?_)
      have e : (x1 : Int) / 2 ^ 16 = ((x1 / 2 ^ 16 : Nat) : Int) := by omega
      rw [e]
      refine ⟨(x1 / 2 ^ 16, n1 + 16), rfl, rfl, by dsimp only; exact (by repeat (first | exact Wk.jk | refine Wk.up rfl ?_)), ?_⟩
      refine ⟨by dsimp only; omega, ?_, by dsimp only; omega⟩
      rw [e1, bitsLen_shift (n := x1) (s := 16) (by omega)]; dsimp only; omega
    · repeat' (first|refine wA ?_|refine wB ?_|refine wH ?_|refine wI ?_|refine wJ ?_|refine wC ?_|refine wD ?_|refine wE ?_|refine wF ?_|refine wG ?_|refine wK ?_|refine wL ?_|refine wM ?_|refine wN ?_|refine wO ?_|refine wP ?_|refine wQ ?_|refine wR ?_|refine wS ?_|refine wT ?_|refine wU ?_|refine wV ?_|refine wW ?_|refine wX ?_)
      refine ⟨(x1, n1), rfl, rfl, by dsimp only; exact (by repeat (first | exact Wk.jk | refine Wk.up rfl ?_)), ?_⟩
      exact ⟨by dsimp only; omega, e1, by dsimp only; omega⟩
  rintro ⟨x2, n2⟩ ⟨h2, e2, m2⟩
  dsimp only at h2 e2 m2
  dsimp only
  refine Run.seq ?_
  refine Run.join (β := Nat × Nat) (fun y => up (up jk 0 (.int .u64 (y.1 : Int))) 2 (.int .i64 (y.2 : Int))) (fun _ => H) (fun y => y.1 < 256 ∧ bitsLen x = bitsLen y.1 + y.2 ∧ y.2 ≤ 56) ?_ ?_
  · repeat' (first|refine wA ?_|refine wB ?_|refine wH ?_|refine wI ?_|refine wJ ?_|refine wC ?_|refine wD ?_|refine wE ?_|refine wF ?_|refine wG ?_|refine wK ?_|refine wL ?_|refine wM ?_|refine wN ?_|refine wO ?_|refine wP ?_|refine wQ ?_|refine wR ?_|refine wS ?_|refine wT ?_|refine wU ?_|refine wV ?_|refine wW ?_|refine wX ?_)
    refine Ops.cmp rfl rfl rfl (fun hc => ?_) (fun hc => ?_)
    · repeat' (first|refine wA ?_|refine wB ?_|refine wH ?_|refine wI ?_|refine wJ ?_|refine wC ?_|refine wD ?_|refine wE ?_|refine wF ?_|refine wG ?_|refine wK ?_|refine wL ?_|refine wM ?_|refine wN ?_|refine wO ?_|refine wP ?_|refine wQ ?_|refine wR ?_|refine wS ?_|refine wT ?_|refine wU ?_|refine wV ?_|refine wW ?_|refine wX ?_)
      refine Ops.shrE (s := 8) rfl rfl (by omega) (by decide) ?_
      repeat' (first|refine wA ?_|refine wB ?_|refine wH ?_|refine wI ?_|refine wJ ?_|refine wC ?_|refine wD ?_|refine wE ?_|refine wF ?_|refine wG ?_|refine wK ?_|refine wL ?_|refine wM ?_|refine wN ?_|refine wO ?_|refine wP ?_|refine wQ ?_|refine wR ?_|refine wS ?_|refine wT ?_|refine wU ?_|refine wV ?_|refine wW ?_|refine wX ?_)
      have e : (x2 : Int) / 2 ^ 8 = ((x2 / 2 ^ 8 : Nat) : Int) := by omega
      rw [e]
      refine ⟨(x2 / 2 ^ 8, n2 + 8), rfl, rfl, by dsimp only; exact (by repeat (first | exact Wk.jk | refine Wk.up rfl ?_)), ?_⟩
      refine ⟨by dsimp only; omega, ?_, by dsimp only; omega⟩
      rw [e2, bitsLen_shift (n := x2) (s := 8) (by omega)]; dsimp only; omega
    · repeat' (first|refine wA ?_|refine wB ?_|refine wH ?_|refine wI ?_|refine wJ ?_|refine wC ?_|refine wD ?_|refine wE ?_|refine wF ?_|refine wG ?_|refine wK ?_|refine wL ?_|refine wM ?_|refine wN ?_|refine wO ?_|refine wP ?_|refine wQ ?_|refine wR ?_|refine wS ?_|refine wT ?_|refine wU ?_|refine wV ?_|refine wW ?_|refine wX ?_)
      refine ⟨(x2, n2), rfl, rfl, by dsimp only; exact (by repeat (first | exact Wk.jk | refine Wk.up rfl ?_)), ?_⟩
      exact ⟨by dsimp only; omega, e2, by dsimp only; omega⟩
  rintro ⟨x3, n3⟩ ⟨h3, e3, m3⟩
  dsimp only at h3 e3 m3
  dsimp only
  have hb : bitsLen x3 ≤ 8 := (bitsLen_le_iff x3 8).2 (by omega)
  repeat' (first|refine wA ?_|refine wB ?_|refine wH ?_|refine wI ?_|refine wJ ?_|refine wC ?_|refine wD ?_|refine wE ?_|refine wF ?_|refine wG ?_|refine wK ?_|refine wL ?_|refine wM ?_|refine wN ?_|refine wO ?_|refine wP ?_|refine wQ ?_|refine wR ?_|refine wS ?_|refine wT ?_|refine wU ?_|refine wV ?_|refine wW ?_|refine wX ?_)
  refine Ops.convK rfl (by kernel_rfl) (by kernel_rfl) (wrap_u8 (by omega) (by omega)) ?_
  refine strIdx_table (j := x3) (by exact ⟨by kernel_rfl, by kernel_rfl⟩) rfl Try.underlying9 h3 ?_
  refine Ops.convK rfl (by kernel_rfl) (by kernel_rfl) (wrap_in (by omega) (by omega)) ?_
  repeat' (first|refine wA ?_|refine wB ?_|refine wH ?_|refine wI ?_|refine wJ ?_|refine wC ?_|refine wD ?_|refine wE ?_|refine wF ?_|refine wG ?_|refine wK ?_|refine wL ?_|refine wM ?_|refine wN ?_|refine wO ?_|refine wP ?_|refine wQ ?_|refine wR ?_|refine wS ?_|refine wT ?_|refine wU ?_|refine wV ?_|refine wW ?_|refine wX ?_)
  refine Run.ret ⟨.inl rfl, ResK.tmp rfl (by conv => lhs; whnf) (ResK.nil ?_)⟩
  refine ⟨?_, rfl⟩
  rw [e3]
  show Value.int .i64 _ = _
  congr 1
  omega

theorem Len_ok {H : Hp} {x : Nat} (hx : x < 18446744073709551616) : acall Try.prog 109 [.int .u64 (x : Int)] H (.int .i64 (bitsLen x : Nat)) H := by
  refine CallK.eq (CallK.enter Try.func109 rfl rfl Try.ntmps109 Try.results109 rfl ?_)
  repeat' (first|refine wA ?_|refine wB ?_|refine wH ?_|refine wI ?_|refine wJ ?_|refine wC ?_|refine wD ?_|refine wE ?_|refine wF ?_|refine wG ?_|refine wK ?_|refine wL ?_|refine wM ?_|refine wN ?_|refine wO ?_|refine wP ?_|refine wQ ?_|refine wR ?_|refine wS ?_|refine wT ?_|refine wU ?_|refine wV ?_|refine wW ?_|refine wX ?_)
  refine Ops.callE (Len64_ok hx) ?_
  repeat' (first|refine wA ?_|refine wB ?_|refine wH ?_|refine wI ?_|refine wJ ?_|refine wC ?_|refine wD ?_|refine wE ?_|refine wF ?_|refine wG ?_|refine wK ?_|refine wL ?_|refine wM ?_|refine wN ?_|refine wO ?_|refine wP ?_|refine wQ ?_|refine wR ?_|refine wS ?_|refine wT ?_|refine wU ?_|refine wV ?_|refine wW ?_|refine wX ?_)
  refine Run.ret ⟨.inl rfl, ResK.tmp rfl (by conv => lhs; whnf) (ResK.nil ?_)⟩
  exact ⟨rfl, rfl⟩

theorem nextPowerOfTwo_ok {H : Hp} {x : Nat} (hx : x < 4611686018427387904) : acall Try.prog 121 [.int .i64 (x : Int)] H (.int .u64 (2 ^ bitsLen x : Nat)) H := by
  have hb : bitsLen x ≤ 62 := (bitsLen_le_iff x 62).2 (by omega)
  refine CallK.eq (CallK.enter Try.func121 rfl rfl Try.ntmps121 Try.results121 rfl ?_)
  repeat' (first|refine wA ?_|refine wB ?_|refine wH ?_|refine wI ?_|refine wJ ?_|refine wC ?_|refine wD ?_|refine wE ?_|refine wF ?_|refine wG ?_|refine wK ?_|refine wL ?_|refine wM ?_|refine wN ?_|refine wO ?_|refine wP ?_|refine wQ ?_|refine wR ?_|refine wS ?_|refine wT ?_|refine wU ?_|refine wV ?_|refine wW ?_|refine wX ?_)
  refine Ops.convK rfl (by kernel_rfl) (by kernel_rfl) (wrap_u64 (by omega) (by omega)) ?_
  refine Ops.callE (Len_ok (by omega)) ?_
  refine Ops.shl1 rfl rfl (by omega) ?_
  repeat' (first|refine wA ?_|refine wB ?_|refine wH ?_|refine wI ?_|refine wJ ?_|refine wC ?_|refine wD ?_|refine wE ?_|refine wF ?_|refine wG ?_|refine wK ?_|refine wL ?_|refine wM ?_|refine wN ?_|refine wO ?_|refine wP ?_|refine wQ ?_|refine wR ?_|refine wS ?_|refine wT ?_|refine wU ?_|refine wV ?_|refine wW ?_|refine wX ?_)
  refine Run.ret ⟨.inl rfl, ResK.tmp rfl (by conv => lhs; whnf) (ResK.nil ?_)⟩
  exact ⟨rfl, rfl⟩

theorem Next_ok {H : Hp} {p : Value} {kp rp : Nat} {s : Int} (o : Po kp H p [.int .u64 s]) (t' : Rt H p rp) : CallK Try.prog 122 [p] H (fun res H' => (∃ s', Po kp H' p [.int .u64 s']) ∧ Rt H' p rp ∧ Mod rp H H' ∧ ∃ y : Int, res = .int .u64 y) := by
  have hpt : ∃ id off, p = .pointer (some ⟨id, off, none⟩) := by obtain ⟨id, ob, h1, _⟩ := o; exact ⟨id, 0, h1⟩
  refine (CallK.enter Try.func122 rfl rfl Try.ntmps122 Try.results122 rfl ?_)
  repeat' (first|refine wA ?_|refine wB ?_|refine wH ?_|refine wI ?_|refine wJ ?_|refine wC ?_|refine wD ?_|refine wE ?_|refine wF ?_|refine wG ?_|refine wK ?_|refine wL ?_|refine wM ?_|refine wN ?_|refine wO ?_|refine wP ?_|refine wQ ?_|refine wR ?_|refine wS ?_|refine wT ?_|refine wU ?_|refine wV ?_|refine wW ?_|refine wX ?_)
  refine Run.draw [0, 1, 2, 3, 4, 5, 6, 7, 8, 9] Try.checked.mixed (by kernel_rfl) ?_
  repeat' (first|refine wA ?_|refine wB ?_|refine wH ?_|refine wI ?_|refine wJ ?_|refine wC ?_|refine wD ?_|refine wE ?_|refine wF ?_|refine wG ?_|refine wK ?_|refine wL ?_|refine wM ?_|refine wN ?_|refine wO ?_|refine wP ?_|refine wQ ?_|refine wR ?_|refine wS ?_|refine wT ?_|refine wU ?_|refine wV ?_|refine wW ?_|refine wX ?_)
  refine Ops.nilc rfl hpt ?_
  refine Ops.load1 o.pt (by kernel_rfl) rfl ?_
  repeat' (first|refine wA ?_|refine wB ?_|refine wH ?_|refine wI ?_|refine wJ ?_|refine wC ?_|refine wD ?_|refine wE ?_|refine wF ?_|refine wG ?_|refine wK ?_|refine wL ?_|refine wM ?_|refine wN ?_|refine wO ?_|refine wP ?_|refine wQ ?_|refine wR ?_|refine wS ?_|refine wT ?_|refine wU ?_|refine wV ?_|refine wW ?_|refine wX ?_)
  refine Ops.nilc rfl hpt ?_
  refine Ops.load1 o.pt (by kernel_rfl) rfl ?_
  refine Ops.shlK rfl rfl (by decide) fun s1 => ?_
  refine Ops.xorK rfl rfl fun s2 => ?_
  refine Ops.nilc rfl hpt ?_
  refine Ops.storeS (ds := [.int .u64 s2]) o t' rfl (by kernel_rfl) rfl rfl fun H1 m1 o1 => ?_
  have t1 := t'.mod m1
  repeat' (first|refine wA ?_|refine wB ?_|refine wH ?_|refine wI ?_|refine wJ ?_|refine wC ?_|refine wD ?_|refine wE ?_|refine wF ?_|refine wG ?_|refine wK ?_|refine wL ?_|refine wM ?_|refine wN ?_|refine wO ?_|refine wP ?_|refine wQ ?_|refine wR ?_|refine wS ?_|refine wT ?_|refine wU ?_|refine wV ?_|refine wW ?_|refine wX ?_)
  refine Run.draw [0, 1, 2, 3, 4, 5, 6, 7, 8, 9] Try.checked.mixed (by kernel_rfl) ?_
  repeat' (first|refine wA ?_|refine wB ?_|refine wH ?_|refine wI ?_|refine wJ ?_|refine wC ?_|refine wD ?_|refine wE ?_|refine wF ?_|refine wG ?_|refine wK ?_|refine wL ?_|refine wM ?_|refine wN ?_|refine wO ?_|refine wP ?_|refine wQ ?_|refine wR ?_|refine wS ?_|refine wT ?_|refine wU ?_|refine wV ?_|refine wW ?_|refine wX ?_)
  refine Ops.nilc rfl hpt ?_
  refine Ops.load1 o1.pt (by kernel_rfl) rfl ?_
  repeat' (first|refine wA ?_|refine wB ?_|refine wH ?_|refine wI ?_|refine wJ ?_|refine wC ?_|refine wD ?_|refine wE ?_|refine wF ?_|refine wG ?_|refine wK ?_|refine wL ?_|refine wM ?_|refine wN ?_|refine wO ?_|refine wP ?_|refine wQ ?_|refine wR ?_|refine wS ?_|refine wT ?_|refine wU ?_|refine wV ?_|refine wW ?_|refine wX ?_)
  refine Ops.nilc rfl hpt ?_
  refine Ops.load1 o1.pt (by kernel_rfl) rfl ?_
  refine Ops.shrK rfl rfl (by decide) fun s3 => ?_
  refine Ops.xorK rfl rfl fun s4 => ?_
  refine Ops.nilc rfl hpt ?_
  refine Ops.storeS (ds := [.int .u64 s4]) o1 t1 rfl (by kernel_rfl) rfl rfl fun H2 m2 o2 => ?_
  have t2 := t1.mod m2
  repeat' (first|refine wA ?_|refine wB ?_|refine wH ?_|refine wI ?_|refine wJ ?_|refine wC ?_|refine wD ?_|refine wE ?_|refine wF ?_|refine wG ?_|refine wK ?_|refine wL ?_|refine wM ?_|refine wN ?_|refine wO ?_|refine wP ?_|refine wQ ?_|refine wR ?_|refine wS ?_|refine wT ?_|refine wU ?_|refine wV ?_|refine wW ?_|refine wX ?_)
  refine Run.draw [0, 1, 2, 3, 4, 5, 6, 7, 8, 9] Try.checked.mixed (by kernel_rfl) ?_
  repeat' (first|refine wA ?_|refine wB ?_|refine wH ?_|refine wI ?_|refine wJ ?_|refine wC ?_|refine wD ?_|refine wE ?_|refine wF ?_|refine wG ?_|refine wK ?_|refine wL ?_|refine wM ?_|refine wN ?_|refine wO ?_|refine wP ?_|refine wQ ?_|refine wR ?_|refine wS ?_|refine wT ?_|refine wU ?_|refine wV ?_|refine wW ?_|refine wX ?_)
  refine Ops.nilc rfl hpt ?_
  refine Ops.load1 o2.pt (by kernel_rfl) rfl ?_
  repeat' (first|refine wA ?_|refine wB ?_|refine wH ?_|refine wI ?_|refine wJ ?_|refine wC ?_|refine wD ?_|refine wE ?_|refine wF ?_|refine wG ?_|refine wK ?_|refine wL ?_|refine wM ?_|refine wN ?_|refine wO ?_|refine wP ?_|refine wQ ?_|refine wR ?_|refine wS ?_|refine wT ?_|refine wU ?_|refine wV ?_|refine wW ?_|refine wX ?_)
  refine Ops.nilc rfl hpt ?_
  refine Ops.load1 o2.pt (by kernel_rfl) rfl ?_
  refine Ops.shlK rfl rfl (by decide) fun s5 => ?_
  refine Ops.xorK rfl rfl fun s6 => ?_
  refine Ops.nilc rfl hpt ?_
  refine Ops.storeS (ds := [.int .u64 s6]) o2 t2 rfl (by kernel_rfl) rfl rfl fun H3 m3 o3 => ?_
  repeat' (first|refine wA ?_|refine wB ?_|refine wH ?_|refine wI ?_|refine wJ ?_|refine wC ?_|refine wD ?_|refine wE ?_|refine wF ?_|refine wG ?_|refine wK ?_|refine wL ?_|refine wM ?_|refine wN ?_|refine wO ?_|refine wP ?_|refine wQ ?_|refine wR ?_|refine wS ?_|refine wT ?_|refine wU ?_|refine wV ?_|refine wW ?_|refine wX ?_)
  refine Ops.nilc rfl hpt ?_
  refine Ops.load1 o3.pt (by kernel_rfl) rfl ?_
  repeat' (first|refine wA ?_|refine wB ?_|refine wH ?_|refine wI ?_|refine wJ ?_|refine wC ?_|refine wD ?_|refine wE ?_|refine wF ?_|refine wG ?_|refine wK ?_|refine wL ?_|refine wM ?_|refine wN ?_|refine wO ?_|refine wP ?_|refine wQ ?_|refine wR ?_|refine wS ?_|refine wT ?_|refine wU ?_|refine wV ?_|refine wW ?_|refine wX ?_)
  refine Run.ret ⟨.inl rfl, ResK.tmp rfl (by conv => lhs; whnf) (ResK.nil ?_)⟩
  exact ⟨⟨s6, o3⟩, t2.mod m3, (m1.trans m2).trans m3, s6, rfl⟩

section
variable {H : Hp} {v : Value} {d : Array LF} {k r a b : Nat}

theorem breakPatterns_ok (fv : Value) (h : SR (elF 3) 24 k r H v d) (hb : b ≤ d.size) (ha : a + 12 < b) (hn : d.size ≤ 1099511627776) :
    CallK Try.prog 112 [v, .int .i64 (a : Int), .int .i64 (b : Int), fv] H (fun _ H' => (∃ d', PermIn a b d d' ∧ SR (elF 3) 24 k r H' v d') ∧ Tr r H H') := by
  obtain ⟨L, hL⟩ : ∃ L : Nat, L = b - a := ⟨_, rfl⟩
  have eL : (b : Int) - a = (L : Int) := by omega
  obtain ⟨M, hM⟩ : ∃ M : Nat, M = 2 ^ bitsLen L := ⟨_, rfl⟩
  have hpow : M ≤ 2 * L := by rw [hM]; exact two_pow_bitsLen_le (by omega)
  have hpos : 1 ≤ M := by rw [hM]; exact Nat.pow_pos (by omega)
  refine (CallK.enter Try.func112 rfl rfl Try.ntmps112 Try.results112 rfl ?_)
  repeat' (first|refine wA ?_|refine wB ?_|refine wH ?_|refine wI ?_|refine wJ ?_|refine wC ?_|refine wD ?_|refine wE ?_|refine wF ?_|refine wG ?_|refine wK ?_|refine wL ?_|refine wM ?_|refine wN ?_|refine wO ?_|refine wP ?_|refine wQ ?_|refine wR ?_|refine wS ?_|refine wT ?_|refine wU ?_|refine wV ?_|refine wW ?_|refine wX ?_)
  rw [eL]
  refine Ops.cmp rfl rfl rfl (fun hc1 => ?_) (fun hc1 => ?_)
  · repeat' (first|refine wA ?_|refine wB ?_|refine wH ?_|refine wI ?_|refine wJ ?_|refine wC ?_|refine wD ?_|refine wE ?_|refine wF ?_|refine wG ?_|refine wK ?_|refine wL ?_|refine wM ?_|refine wN ?_|refine wO ?_|refine wP ?_|refine wQ ?_|refine wR ?_|refine wS ?_|refine wT ?_|refine wU ?_|refine wV ?_|refine wW ?_|refine wX ?_)
    refine Ops.convK rfl (by kernel_rfl) (by kernel_rfl) (wrap_u64 (by omega) (by omega)) ?_
    refine Ops.var H.nxt (Nat.le_refl _) (z0 := .int .u64 0) (by kernel_rfl) rfl (by decide) (ds := [.int .u64 (L : Int)]) rfl (by simp) (by kernel_rfl) rfl rfl fun p H1 o1 c1 ap1 => ?_
    repeat' (first|refine wA ?_|refine wB ?_|refine wH ?_|refine wI ?_|refine wJ ?_|refine wC ?_|refine wD ?_|refine wE ?_|refine wF ?_|refine wG ?_|refine wK ?_|refine wL ?_|refine wM ?_|refine wN ?_|refine wO ?_|refine wP ?_|refine wQ ?_|refine wR ?_|refine wS ?_|refine wT ?_|refine wU ?_|refine wV ?_|refine wW ?_|refine wX ?_)
    have hnx := nextPowerOfTwo_ok (H := H1) (x := L) (by omega)
    rw [← hM] at hnx
    refine Ops.callE hnx ?_
    repeat' (first|refine wA ?_|refine wB ?_|refine wH ?_|refine wI ?_|refine wJ ?_|refine wC ?_|refine wD ?_|refine wE ?_|refine wF ?_|refine wG ?_|refine wK ?_|refine wL ?_|refine wM ?_|refine wN ?_|refine wO ?_|refine wP ?_|refine wQ ?_|refine wR ?_|refine wS ?_|refine wT ?_|refine wU ?_|refine wV ?_|refine wW ?_|refine wX ?_)
    refine Ops.quo rfl rfl (by omega) (by omega) (by omega) ?_
    refine Ops.mul rfl rfl (by omega) (by omega) ?_
    repeat' (first|refine wA ?_|refine wB ?_|refine wH ?_|refine wI ?_|refine wJ ?_|refine wC ?_|refine wD ?_|refine wE ?_|refine wF ?_|refine wG ?_|refine wK ?_|refine wL ?_|refine wM ?_|refine wN ?_|refine wO ?_|refine wP ?_|refine wQ ?_|refine wR ?_|refine wS ?_|refine wT ?_|refine wU ?_|refine wV ?_|refine wW ?_|refine wX ?_)
    obtain ⟨rp, hrp, t1⟩ := o1.rt
    have h1 := h.calm c1
    have hap : Ap v p := ap1 v h.ac.live
    have hel1 : ∀ x ∈ d.toList, (elF 3).E H1 rp x := fun x hx => (elF 3).fresh (h.el x hx) c1 hrp
    have e3 : (a : Int) + (L : Int) / 4 * 2 - 1 = ((a + L / 4 * 2 - 1 : Nat) : Int) := by omega
    rw [e3]
    refine Run.loopW (fun (x : Nat × Hp × Array LF × Int) => (a + L / 4 * 2 + 2) - x.1) (fun x => up (up (up (up (up (up jk 0 v) 1 (.int .i64 (a : Int))) 8 (.int .i64 (L : Int))) 9 p) 10 (.int .u64 (M : Int))) 11 (.int .i64 (x.1 : Int))) (fun x => x.2.1)
      (fun x => a ≤ x.1 ∧ x.1 ≤ a + L / 4 * 2 + 2 ∧ SR (elF 3) 24 k r x.2.1 v x.2.2.1 ∧ Tr r H x.2.1 ∧ PermIn a b d x.2.2.1 ∧ Po H.nxt x.2.1 p [.int .u64 x.2.2.2] ∧ Rt x.2.1 p rp ∧ ∀ y ∈ x.2.2.1.toList, (elF 3).E x.2.1 rp y) (a + L / 4 * 2 - 1, H1, d, (L : Int)) rfl (by repeat (first | exact Wk.jk | refine Wk.up rfl ?_))
      ⟨by dsimp only; omega, by dsimp only; omega, h1, Tr.of_calm c1, permIn_refl _ _ _, o1, t1, hel1⟩ ?_
    rintro ⟨i, H2, d2, s2⟩ ⟨hi1, hi2, h2, tr2, pm2, o2, t2, hel2⟩
    dsimp only at hi1 hi2 h2 tr2 pm2 o2 t2 hel2
    dsimp only
    have sz2 : d2.size = d.size := pm2.1
    repeat' (first|refine wA ?_|refine wB ?_|refine wH ?_|refine wI ?_|refine wJ ?_|refine wC ?_|refine wD ?_|refine wE ?_|refine wF ?_|refine wG ?_|refine wK ?_|refine wL ?_|refine wM ?_|refine wN ?_|refine wO ?_|refine wP ?_|refine wQ ?_|refine wR ?_|refine wS ?_|refine wT ?_|refine wU ?_|refine wV ?_|refine wW ?_|refine wX ?_)
    refine Ops.quo rfl rfl (by omega) (by omega) (by omega) ?_
    refine Ops.mul rfl rfl (by omega) (by omega) ?_
    repeat' (first|refine wA ?_|refine wB ?_|refine wH ?_|refine wI ?_|refine wJ ?_|refine wC ?_|refine wD ?_|refine wE ?_|refine wF ?_|refine wG ?_|refine wK ?_|refine wL ?_|refine wM ?_|refine wN ?_|refine wO ?_|refine wP ?_|refine wQ ?_|refine wR ?_|refine wS ?_|refine wT ?_|refine wU ?_|refine wV ?_|refine wW ?_|refine wX ?_)
    refine Ops.cmp rfl rfl rfl (fun hc2 => ?_) (fun hc2 => ?_)
    · repeat' (first|refine wA ?_|refine wB ?_|refine wH ?_|refine wI ?_|refine wJ ?_|refine wC ?_|refine wD ?_|refine wE ?_|refine wF ?_|refine wG ?_|refine wK ?_|refine wL ?_|refine wM ?_|refine wN ?_|refine wO ?_|refine wP ?_|refine wQ ?_|refine wR ?_|refine wS ?_|refine wT ?_|refine wU ?_|refine wV ?_|refine wW ?_|refine wX ?_)
      refine Ops.call (Next_ok o2 t2) (fun _ _ _ hf => by cases hf) fun r3 H3 => ?_
      rintro ⟨⟨s3, o3⟩, t3, m3, y, rfl⟩
      have o3 : Po H.nxt H3 p [.int .u64 s3] := o3
      have t3 : Rt H3 p rp := t3
      have h3 := h2.modP t2 hap hel2 m3
      have tr3 := tr2.modP m3 hrp
      have hel3 : ∀ z ∈ d2.toList, (elF 3).E H3 rp z := fun z hz => (elF 3).emod (hel2 z hz) m3
      repeat' (first|refine wA ?_|refine wB ?_|refine wH ?_|refine wI ?_|refine wJ ?_|refine wC ?_|refine wD ?_|refine wE ?_|refine wF ?_|refine wG ?_|refine wK ?_|refine wL ?_|refine wM ?_|refine wN ?_|refine wO ?_|refine wP ?_|refine wQ ?_|refine wR ?_|refine wS ?_|refine wT ?_|refine wU ?_|refine wV ?_|refine wW ?_|refine wX ?_)
      refine Ops.subU rfl rfl (by omega) (by omega) ?_
      refine Ops.andU rfl rfl (by omega) (by omega) fun z hz0 hz1 => ?_
      refine Ops.convK rfl (by kernel_rfl) (by kernel_rfl) (wrap_in (by omega) (by omega)) ?_
      refine Ops.assign (by conv => lhs; whnf) ?_
      refine Ops.nil ?_
      refine Run.seq ?_
      refine Run.join (β := Nat) (fun y => up (up (up (up (up (up (up jk 0 v) 1 (.int .i64 (a : Int))) 8 (.int .i64 (L : Int))) 9 p) 10 (.int .u64 (M : Int))) 11 (.int .i64 (i : Int))) 12 (.int .i64 (y : Int))) (fun _ => H3) (fun y => y < L) ?_ ?_
      · repeat' (first|refine wA ?_|refine wB ?_|refine wH ?_|refine wI ?_|refine wJ ?_|refine wC ?_|refine wD ?_|refine wE ?_|refine wF ?_|refine wG ?_|refine wK ?_|refine wL ?_|refine wM ?_|refine wN ?_|refine wO ?_|refine wP ?_|refine wQ ?_|refine wR ?_|refine wS ?_|refine wT ?_|refine wU ?_|refine wV ?_|refine wW ?_|refine wX ?_)
        refine Ops.cmp rfl rfl rfl (fun hc3 => ?_) (fun hc3 => ?_)
        · repeat' (first|refine wA ?_|refine wB ?_|refine wH ?_|refine wI ?_|refine wJ ?_|refine wC ?_|refine wD ?_|refine wE ?_|refine wF ?_|refine wG ?_|refine wK ?_|refine wL ?_|refine wM ?_|refine wN ?_|refine wO ?_|refine wP ?_|refine wQ ?_|refine wR ?_|refine wS ?_|refine wT ?_|refine wU ?_|refine wV ?_|refine wW ?_|refine wX ?_)
          have e4 : z - (L : Int) = ((z - L).toNat : Int) := by omega
          rw [e4]
          refine ⟨(z - L).toNat, rfl, rfl, by dsimp only; exact (by repeat (first | exact Wk.jk | refine Wk.up rfl ?_)), ?_⟩
          omega
        · repeat' (first|refine wA ?_|refine wB ?_|refine wH ?_|refine wI ?_|refine wJ ?_|refine wC ?_|refine wD ?_|refine wE ?_|refine wF ?_|refine wG ?_|refine wK ?_|refine wL ?_|refine wM ?_|refine wN ?_|refine wO ?_|refine wP ?_|refine wQ ?_|refine wR ?_|refine wS ?_|refine wT ?_|refine wU ?_|refine wV ?_|refine wW ?_|refine wX ?_)
          have e4 : z = (z.toNat : Int) := by omega
          rw [e4]
          refine ⟨z.toNat, rfl, rfl, by dsimp only; exact (by repeat (first | exact Wk.jk | refine Wk.up rfl ?_)), ?_⟩
          omega
      · intro o4 ho4
        repeat' (first|refine wA ?_|refine wB ?_|refine wH ?_|refine wI ?_|refine wJ ?_|refine wC ?_|refine wD ?_|refine wE ?_|refine wF ?_|refine wG ?_|refine wK ?_|refine wL ?_|refine wM ?_|refine wN ?_|refine wO ?_|refine wP ?_|refine wQ ?_|refine wR ?_|refine wS ?_|refine wT ?_|refine wU ?_|refine wV ?_|refine wW ?_|refine wX ?_)
        refine Run.draw [0, 1, 2, 3, 4, 5, 6, 7, 8, 9, 10, 11, 12, 13, 14, 15, 16, 17, 18, 19] Try.checked.mixed (by kernel_rfl) ?_
        repeat' (first|refine wA ?_|refine wB ?_|refine wH ?_|refine wI ?_|refine wJ ?_|refine wC ?_|refine wD ?_|refine wE ?_|refine wF ?_|refine wG ?_|refine wK ?_|refine wL ?_|refine wM ?_|refine wN ?_|refine wO ?_|refine wP ?_|refine wQ ?_|refine wR ?_|refine wS ?_|refine wT ?_|refine wU ?_|refine wV ?_|refine wW ?_|refine wX ?_)
        refine Ops.rdS (a + o4) h3 rfl rfl rfl (by omega) (by omega) (by kernel_rfl) (by kernel_rfl) fun pz u3 ok3 cu3 => ?_
        repeat' (first|refine wA ?_|refine wB ?_|refine wH ?_|refine wI ?_|refine wJ ?_|refine wC ?_|refine wD ?_|refine wE ?_|refine wF ?_|refine wG ?_|refine wK ?_|refine wL ?_|refine wM ?_|refine wN ?_|refine wO ?_|refine wP ?_|refine wQ ?_|refine wR ?_|refine wS ?_|refine wT ?_|refine wU ?_|refine wV ?_|refine wW ?_|refine wX ?_)
        refine Ops.rdS i h3 rfl rfl rfl rfl (by omega) (by kernel_rfl) (by kernel_rfl) fun pz u4 ok4 cu4 => ?_
        refine Ops.swM i (a + o4) h3 rfl rfl rfl rfl rfl rfl (by omega) (by omega) (by omega) rfl rfl ok3 ok4 cu3 cu4 (by simp) (by simp) (by simp) (by simp) (by simp) (by kernel_rfl) (by kernel_rfl) (by kernel_rfl) fun pz qz H4 h4 m4 => ?_
        have o4' : Po H.nxt H4 p [.int .u64 s3] := o3.mod (h3.rt (by omega)).1 hap.symm m4
        repeat' (first|refine wA ?_|refine wB ?_|refine wH ?_|refine wI ?_|refine wJ ?_|refine wC ?_|refine wD ?_|refine wE ?_|refine wF ?_|refine wG ?_|refine wK ?_|refine wL ?_|refine wM ?_|refine wN ?_|refine wO ?_|refine wP ?_|refine wQ ?_|refine wR ?_|refine wS ?_|refine wT ?_|refine wU ?_|refine wV ?_|refine wW ?_|refine wX ?_)
        refine ⟨(i + 1, H4, swp d2 i (a + o4), s3), by dsimp only; omega, rfl, rfl, by dsimp only; exact (by repeat (first | exact Wk.jk | refine Wk.up rfl ?_)), ?_⟩
        refine ⟨by dsimp only; omega, by dsimp only; omega, h4, tr3.trans (Tr.of_mod m4), permIn_trans _ _ _ a b pm2 (swp_permIn d2 a b i (a + o4) (by omega) (by omega) (by omega) (by omega) (by omega)), o4', t3.mod m4, fun z hz => ?_⟩
        dsimp only at hz ⊢
        refine (elF 3).emod (hel3 z ?_) m4
        have hmem : ∀ q, q < d2.size → d2[q]! ∈ d2.toList := fun q hq => by rw [getElem!_pos d2 q hq]; simp
        rw [swp_toList] at hz
        rcases List.mem_or_eq_of_mem_set hz with hz | hz
        · rcases List.mem_or_eq_of_mem_set hz with hz | hz
          · exact hz
          · subst hz; exact hmem _ (by omega)
        · subst hz; exact hmem _ (by omega)
    · repeat' (first|refine wA ?_|refine wB ?_|refine wH ?_|refine wI ?_|refine wJ ?_|refine wC ?_|refine wD ?_|refine wE ?_|refine wF ?_|refine wG ?_|refine wK ?_|refine wL ?_|refine wM ?_|refine wN ?_|refine wO ?_|refine wP ?_|refine wQ ?_|refine wR ?_|refine wS ?_|refine wT ?_|refine wU ?_|refine wV ?_|refine wW ?_|refine wX ?_)
      exact ⟨.inr rfl, ResK.nil ⟨⟨d2, pm2, h2⟩, tr2⟩⟩
  · omega

end
end Go.Proofs.Ytefmjpbmdoebaaa

/- Sorting rows of rows: the whole. -/
set_option linter.unusedVariables false
namespace Go.Proofs.Ytefmjpbmdoebaaa
open Go Go.RowKit Go.Sort

/-- A comparison, whichever way. -/
theorem Ops.cmpAny {P : Program} {fl : Bool} {all : Array Oper} {rest : List Oper} {n : Nat} {T : Nat → Value} {H : Hp} {K : St → Prop} {d : Nat} {ty : TypeId} {ps : String} {af : Array Edge} {x y : Operand} {op : BinOp} {t u : TypeId} {ki : IntKind} {a b : Int} {p : Prop} [Decidable p] (hx : rd T x = .int ki a) (hy : rd T y = .int ki b) (hv : ibin op ki a b = some (.bool (decide p)))
    (kk : ∀ q : Bool, Ops P fl all rest ⟨n, up T d (.bool q), H⟩ K) : Ops P fl all (⟨some d, .binOp op t x y u, ty, ps, af, none⟩ :: rest) ⟨n, T, H⟩ K :=
  .go rfl (fun _ => aev_bin rfl hx hy hv) (kk _)

/-- What is still to be done: whatever sorted row comes of [a', b'), the whole is sorted. -/
def Todo (lt : LF → LF → Bool) (a b : Nat) (d : Array LF) (a' b' : Nat) (d' : Array LF) : Prop := ∀ R, PermIn a' b' d' R → SortedIn lt a' b' R → PermIn a b d R ∧ SortedIn lt a b R
theorem Todo.perm {lt : LF → LF → Bool} {a b a' b' : Nat} {d d' d'' : Array LF} (h : Todo lt a b d a' b' d') (hp : PermIn a' b' d' d'') : Todo lt a b d a' b' d'' := fun R h1 h2 => h R (permIn_trans _ _ _ a' b' hp h1) h2

section
variable {g : FuncId} {cf : LF → LF → Int} (hcmp : ∀ (H : Hp) (u1 u2 : Value) (a b : LF), (cF cI 3).ok H [u1] a → (cF cI 3).ok H [u2] b → acall Try.prog g [u1, u2] H (.int .i64 (cf a b)) H)
  {v : Value} {k r : Nat}
include hcmp

set_option maxHeartbeats 2000000 in
theorem pdqsort_ok (hO : SWO (ltc cf)) : ∀ (m : Nat) (H : Hp) (d : Array LF) (a b : Nat) (lim : Int), b - a ≤ m → SR (elF 3) 24 k r H v d → a ≤ b → b ≤ d.size → d.size ≤ 1099511627776 → Below (ltc cf) a b d → -4611686018427387904 + ((b : Int) - a) ≤ lim → lim ≤ 4611686018427387904 →
    CallK Try.prog 108 [v, .int .i64 (a : Int), .int .i64 (b : Int), .int .i64 lim, .func (.func g) #[] #[]] H (fun _ H' => (∃ d', PermIn a b d d' ∧ SortedIn (ltc cf) a b d' ∧ SR (elF 3) 24 k r H' v d') ∧ Tr r H H') := by
  intro m
  induction m with
  | zero =>
    intro H d a b lim hm h hab hb hn hB hl1 hl2
    refine (CallK.enter Try.func108 rfl rfl Try.ntmps108 Try.results108 rfl ?_)
    repeat' (first|refine wA ?_|refine wB ?_|refine wH ?_|refine wI ?_|refine wJ ?_|refine wC ?_|refine wD ?_|refine wE ?_|refine wF ?_|refine wG ?_|refine wK ?_|refine wL ?_|refine wM ?_|refine wN ?_|refine wO ?_|refine wP ?_|refine wQ ?_|refine wR ?_|refine wS ?_|refine wT ?_|refine wU ?_|refine wV ?_|refine wW ?_|refine wX ?_)
    refine Run.loopW (fun (x : Unit) => 0) (fun x => up (up (up (up jk 0 v) 1 (.int .i64 (a : Int))) 2 (.int .i64 (b : Int))) 4 (.func (.func g) #[] #[])) (fun _ => H) (fun _ => True) () rfl (by repeat (first | exact Wk.jk | refine Wk.up rfl ?_)) trivial ?_
    intro _ _
    repeat' (first|refine wA ?_|refine wB ?_|refine wH ?_|refine wI ?_|refine wJ ?_|refine wC ?_|refine wD ?_|refine wE ?_|refine wF ?_|refine wG ?_|refine wK ?_|refine wL ?_|refine wM ?_|refine wN ?_|refine wO ?_|refine wP ?_|refine wQ ?_|refine wR ?_|refine wS ?_|refine wT ?_|refine wU ?_|refine wV ?_|refine wW ?_|refine wX ?_)
    refine Ops.cmp rfl rfl rfl (fun hc1 => ?_) (fun hc1 => ?_)
    · repeat' (first|refine wA ?_|refine wB ?_|refine wH ?_|refine wI ?_|refine wJ ?_|refine wC ?_|refine wD ?_|refine wE ?_|refine wF ?_|refine wG ?_|refine wK ?_|refine wL ?_|refine wM ?_|refine wN ?_|refine wO ?_|refine wP ?_|refine wQ ?_|refine wR ?_|refine wS ?_|refine wT ?_|refine wU ?_|refine wV ?_|refine wW ?_|refine wX ?_)
      refine Ops.call (insertionSort_ok hcmp (a := a) (b := b) h hb hab hn) (fun _ _ _ hf => by cases hf) fun _ H1 => ?_
      rintro ⟨h1, t1⟩
      repeat' (first|refine wA ?_|refine wB ?_|refine wH ?_|refine wI ?_|refine wJ ?_|refine wC ?_|refine wD ?_|refine wE ?_|refine wF ?_|refine wG ?_|refine wK ?_|refine wL ?_|refine wM ?_|refine wN ?_|refine wO ?_|refine wP ?_|refine wQ ?_|refine wR ?_|refine wS ?_|refine wT ?_|refine wU ?_|refine wV ?_|refine wW ?_|refine wX ?_)
      obtain ⟨p1, p2⟩ := insertionSort_holds hO d a b hab hb
      exact Run.ret ⟨.inl rfl, ResK.nil ⟨⟨_, p1, p2, h1⟩, t1⟩⟩
    · omega
  | succ m ih =>
    intro H d a b lim hm h hab hb hn hB hl1 hl2
    refine (CallK.enter Try.func108 rfl rfl Try.ntmps108 Try.results108 rfl ?_)
    repeat' (first|refine wA ?_|refine wB ?_|refine wH ?_|refine wI ?_|refine wJ ?_|refine wC ?_|refine wD ?_|refine wE ?_|refine wF ?_|refine wG ?_|refine wK ?_|refine wL ?_|refine wM ?_|refine wN ?_|refine wO ?_|refine wP ?_|refine wQ ?_|refine wR ?_|refine wS ?_|refine wT ?_|refine wU ?_|refine wV ?_|refine wW ?_|refine wX ?_)
    refine Run.loopW (fun (x : Nat × Nat × Int × Bool × Bool × Hp × Array LF) => x.2.1 - x.1) (fun x => up (up (up (up (up (up (up jk 0 v) 1 (.int .i64 (x.1 : Int))) 2 (.int .i64 (x.2.1 : Int))) 3 (.int .i64 x.2.2.1)) 4 (.func (.func g) #[] #[])) 10 (.bool x.2.2.2.1)) 11 (.bool x.2.2.2.2.1)) (fun x => x.2.2.2.2.2.1)
      (fun x => a ≤ x.1 ∧ x.1 ≤ x.2.1 ∧ x.2.1 ≤ b ∧ -4611686018427387904 + ((x.2.1 : Int) - x.1) ≤ x.2.2.1 ∧ x.2.2.1 ≤ 4611686018427387904 ∧ SR (elF 3) 24 k r x.2.2.2.2.2.1 v x.2.2.2.2.2.2 ∧ Tr r H x.2.2.2.2.2.1 ∧ x.2.2.2.2.2.2.size = d.size ∧ Below (ltc cf) x.1 x.2.1 x.2.2.2.2.2.2 ∧ Todo (ltc cf) a b d x.1 x.2.1 x.2.2.2.2.2.2) (a, b, lim, true, true, H, d) rfl (by repeat (first | exact Wk.jk | refine Wk.up rfl ?_))
      ⟨Nat.le_refl _, hab, Nat.le_refl _, hl1, hl2, h, Tr.refl, rfl, hB, fun R h1 h2 => ⟨h1, h2⟩⟩ ?_
    rintro ⟨a1, b1, lim1, wb, wp, H1, d1⟩ ⟨ha1, hab1, hb1, hl11, hl12, h1, t1, sz1, hB1, td1⟩
    dsimp only at ha1 hab1 hb1 hl11 hl12 h1 t1 sz1 hB1 td1
    dsimp only
    repeat' (first|refine wA ?_|refine wB ?_|refine wH ?_|refine wI ?_|refine wJ ?_|refine wC ?_|refine wD ?_|refine wE ?_|refine wF ?_|refine wG ?_|refine wK ?_|refine wL ?_|refine wM ?_|refine wN ?_|refine wO ?_|refine wP ?_|refine wQ ?_|refine wR ?_|refine wS ?_|refine wT ?_|refine wU ?_|refine wV ?_|refine wW ?_|refine wX ?_)
    refine Ops.cmp rfl rfl rfl (fun hc1 => ?_) (fun hc1 => ?_)
    · repeat' (first|refine wA ?_|refine wB ?_|refine wH ?_|refine wI ?_|refine wJ ?_|refine wC ?_|refine wD ?_|refine wE ?_|refine wF ?_|refine wG ?_|refine wK ?_|refine wL ?_|refine wM ?_|refine wN ?_|refine wO ?_|refine wP ?_|refine wQ ?_|refine wR ?_|refine wS ?_|refine wT ?_|refine wU ?_|refine wV ?_|refine wW ?_|refine wX ?_)
      refine Ops.call (insertionSort_ok hcmp (a := a1) (b := b1) h1 (by omega) hab1 (by omega)) (fun _ _ _ hf => by cases hf) fun _ H2 => ?_
      rintro ⟨h2, t2⟩
      repeat' (first|refine wA ?_|refine wB ?_|refine wH ?_|refine wI ?_|refine wJ ?_|refine wC ?_|refine wD ?_|refine wE ?_|refine wF ?_|refine wG ?_|refine wK ?_|refine wL ?_|refine wM ?_|refine wN ?_|refine wO ?_|refine wP ?_|refine wQ ?_|refine wR ?_|refine wS ?_|refine wT ?_|refine wU ?_|refine wV ?_|refine wW ?_|refine wX ?_)
      obtain ⟨p1, p2⟩ := insertionSort_holds hO d1 a1 b1 hab1 (by omega)
      obtain ⟨q1, q2⟩ := td1 _ p1 p2
      exact Run.ret ⟨.inl rfl, ResK.nil ⟨⟨_, q1, q2, h2⟩, t1.trans t2⟩⟩
    · repeat' (first|refine wA ?_|refine wB ?_|refine wH ?_|refine wI ?_|refine wJ ?_|refine wC ?_|refine wD ?_|refine wE ?_|refine wF ?_|refine wG ?_|refine wK ?_|refine wL ?_|refine wM ?_|refine wN ?_|refine wO ?_|refine wP ?_|refine wQ ?_|refine wR ?_|refine wS ?_|refine wT ?_|refine wU ?_|refine wV ?_|refine wW ?_|refine wX ?_)
      refine Ops.cmp rfl rfl rfl (fun hc2 => ?_) (fun hc2 => ?_)
      · repeat' (first|refine wA ?_|refine wB ?_|refine wH ?_|refine wI ?_|refine wJ ?_|refine wC ?_|refine wD ?_|refine wE ?_|refine wF ?_|refine wG ?_|refine wK ?_|refine wL ?_|refine wM ?_|refine wN ?_|refine wO ?_|refine wP ?_|refine wQ ?_|refine wR ?_|refine wS ?_|refine wT ?_|refine wU ?_|refine wV ?_|refine wW ?_|refine wX ?_)
        refine Ops.call (heapSort_ok hcmp (a := a1) (b := b1) h1 (by omega) (by omega) (by omega)) (fun _ _ _ hf => by cases hf) fun _ H2 => ?_
        rintro ⟨h2, t2⟩
        repeat' (first|refine wA ?_|refine wB ?_|refine wH ?_|refine wI ?_|refine wJ ?_|refine wC ?_|refine wD ?_|refine wE ?_|refine wF ?_|refine wG ?_|refine wK ?_|refine wL ?_|refine wM ?_|refine wN ?_|refine wO ?_|refine wP ?_|refine wQ ?_|refine wR ?_|refine wS ?_|refine wT ?_|refine wU ?_|refine wV ?_|refine wW ?_|refine wX ?_)
        obtain ⟨p1, p2⟩ := heapSort_holds hO d1 a1 b1 hab1 (by omega)
        obtain ⟨q1, q2⟩ := td1 _ p1 p2
        exact Run.ret ⟨.inl rfl, ResK.nil ⟨⟨_, q1, q2, h2⟩, t1.trans t2⟩⟩
      · refine Ops.nil ?_
        refine Run.cond_f rfl rfl ?_
        refine Run.skip ?_
        refine Run.seq ?_
        refine Run.join (β := Int × Hp × Array LF) (fun y => up (up (up (up (up (up (up (up jk 0 v) 1 (.int .i64 (a1 : Int))) 2 (.int .i64 (b1 : Int))) 3 (.int .i64 y.1)) 4 (.func (.func g) #[] #[])) 10 (.bool wb)) 11 (.bool wp)) 12 (.int .i64 ((b1 : Int) - a1))) (fun y => y.2.1)
          (fun y => -4611686018427387904 + ((b1 : Int) - a1) - 1 ≤ y.1 ∧ y.1 ≤ 4611686018427387904 ∧ SR (elF 3) 24 k r y.2.1 v y.2.2 ∧ Tr r H y.2.1 ∧ PermIn a1 b1 d1 y.2.2) ?_ ?_
        · cases wb
          · repeat' (first|refine wA ?_|refine wB ?_|refine wH ?_|refine wI ?_|refine wJ ?_|refine wC ?_|refine wD ?_|refine wE ?_|refine wF ?_|refine wG ?_|refine wK ?_|refine wL ?_|refine wM ?_|refine wN ?_|refine wO ?_|refine wP ?_|refine wQ ?_|refine wR ?_|refine wS ?_|refine wT ?_|refine wU ?_|refine wV ?_|refine wW ?_|refine wX ?_)
            refine Ops.call (breakPatterns_ok _ (a := a1) (b := b1) h1 (by omega) (by omega) (by omega)) (fun _ _ _ hf => by cases hf) fun _ H2 => ?_
            rintro ⟨⟨d2, p2, h2⟩, t2⟩
            repeat' (first|refine wA ?_|refine wB ?_|refine wH ?_|refine wI ?_|refine wJ ?_|refine wC ?_|refine wD ?_|refine wE ?_|refine wF ?_|refine wG ?_|refine wK ?_|refine wL ?_|refine wM ?_|refine wN ?_|refine wO ?_|refine wP ?_|refine wQ ?_|refine wR ?_|refine wS ?_|refine wT ?_|refine wU ?_|refine wV ?_|refine wW ?_|refine wX ?_)
            refine ⟨(lim1 - 1, H2, d2), rfl, rfl, by dsimp only; exact (by repeat (first | exact Wk.jk | refine Wk.up rfl ?_)), ?_⟩
            exact ⟨by dsimp only; omega, by dsimp only; omega, h2, t1.trans t2, p2⟩
          · repeat' (first|refine wA ?_|refine wB ?_|refine wH ?_|refine wI ?_|refine wJ ?_|refine wC ?_|refine wD ?_|refine wE ?_|refine wF ?_|refine wG ?_|refine wK ?_|refine wL ?_|refine wM ?_|refine wN ?_|refine wO ?_|refine wP ?_|refine wQ ?_|refine wR ?_|refine wS ?_|refine wT ?_|refine wU ?_|refine wV ?_|refine wW ?_|refine wX ?_)
            refine ⟨(lim1, H1, d1), rfl, rfl, by dsimp only; exact (by repeat (first | exact Wk.jk | refine Wk.up rfl ?_)), ?_⟩
            exact ⟨by dsimp only; omega, by dsimp only; omega, h1, t1, permIn_refl _ _ _⟩
        · rintro ⟨lim2, H2, d2⟩ ⟨hl21, hl22, h2, t2, p2⟩
          dsimp only at hl21 hl22 h2 t2 p2
          dsimp only
          have sz2 : d2.size = d.size := p2.1.trans sz1
          repeat' (first|refine wA ?_|refine wB ?_|refine wH ?_|refine wI ?_|refine wJ ?_|refine wC ?_|refine wD ?_|refine wE ?_|refine wF ?_|refine wG ?_|refine wK ?_|refine wL ?_|refine wM ?_|refine wN ?_|refine wO ?_|refine wP ?_|refine wQ ?_|refine wR ?_|refine wS ?_|refine wT ?_|refine wU ?_|refine wV ?_|refine wW ?_|refine wX ?_)
          refine Ops.call (choosePivot_ok hcmp (a := a1) (b := b1) h2 (by omega) (by omega) (by omega)) (fun _ _ _ hf => by cases hf) fun _ H3 => ?_
          rintro ⟨c3, pv, hint, rfl, hpv1, hpv2⟩
          have h3 := h2.calm c3
          have t3 := t2.trans (Tr.of_calm c3)
          refine Ops.move (by conv => lhs; whnf) ?_
          refine Ops.extract rfl rfl ?_
          refine Ops.extract rfl rfl ?_
          refine Ops.assign (by conv => lhs; whnf) ?_
          refine Ops.assign (by conv => lhs; whnf) ?_
          refine Ops.nil ?_
          refine Run.seq ?_
          refine Run.join (β := Nat × Int × Hp × Array LF) (fun y => up (up (up (up (up (up (up (up (up (up jk 0 v) 1 (.int .i64 (a1 : Int))) 2 (.int .i64 (b1 : Int))) 3 (.int .i64 lim2)) 4 (.func (.func g) #[] #[])) 10 (.bool wb)) 11 (.bool wp)) 12 (.int .i64 ((b1 : Int) - a1))) 13 (.int .i64 (y.1 : Int))) 14 (.int .i64 y.2.1)) (fun y => y.2.2.1)
            (fun y => a1 ≤ y.1 ∧ y.1 < b1 ∧ SR (elF 3) 24 k r y.2.2.1 v y.2.2.2 ∧ Tr r H y.2.2.1 ∧ PermIn a1 b1 d1 y.2.2.2) ?_ ?_
          · repeat' (first|refine wA ?_|refine wB ?_|refine wH ?_|refine wI ?_|refine wJ ?_|refine wC ?_|refine wD ?_|refine wE ?_|refine wF ?_|refine wG ?_|refine wK ?_|refine wL ?_|refine wM ?_|refine wN ?_|refine wO ?_|refine wP ?_|refine wQ ?_|refine wR ?_|refine wS ?_|refine wT ?_|refine wU ?_|refine wV ?_|refine wW ?_|refine wX ?_)
            refine Ops.cmp rfl rfl rfl (fun hc3 => ?_) (fun hc3 => ?_)
            · repeat' (first|refine wA ?_|refine wB ?_|refine wH ?_|refine wI ?_|refine wJ ?_|refine wC ?_|refine wD ?_|refine wE ?_|refine wF ?_|refine wG ?_|refine wK ?_|refine wL ?_|refine wM ?_|refine wN ?_|refine wO ?_|refine wP ?_|refine wQ ?_|refine wR ?_|refine wS ?_|refine wT ?_|refine wU ?_|refine wV ?_|refine wW ?_|refine wX ?_)
              refine Ops.call (reverseRange_ok _ (a := a1) (b := b1) h3 (by omega) (by omega) (by omega)) (fun _ _ _ hf => by cases hf) fun _ H4 => ?_
              rintro ⟨h4, t4⟩
              repeat' (first|refine wA ?_|refine wB ?_|refine wH ?_|refine wI ?_|refine wJ ?_|refine wC ?_|refine wD ?_|refine wE ?_|refine wF ?_|refine wG ?_|refine wK ?_|refine wL ?_|refine wM ?_|refine wN ?_|refine wO ?_|refine wP ?_|refine wQ ?_|refine wR ?_|refine wS ?_|refine wT ?_|refine wU ?_|refine wV ?_|refine wW ?_|refine wX ?_)
              have e1 : (b1 : Int) - 1 - ((pv : Int) - a1) = ((b1 - 1 - (pv - a1) : Nat) : Int) := by omega
              rw [e1]
              refine ⟨(b1 - 1 - (pv - a1), 1, H4, reverseRange d2 a1 b1), rfl, rfl, by dsimp only; exact (by repeat (first | exact Wk.jk | refine Wk.up rfl ?_)), ?_⟩
              exact ⟨by dsimp only; omega, by dsimp only; omega, h4, t3.trans t4, permIn_trans _ _ _ a1 b1 p2 (reverseRange_holds d2 a1 b1 (by omega) (by omega))⟩
            · repeat' (first|refine wA ?_|refine wB ?_|refine wH ?_|refine wI ?_|refine wJ ?_|refine wC ?_|refine wD ?_|refine wE ?_|refine wF ?_|refine wG ?_|refine wK ?_|refine wL ?_|refine wM ?_|refine wN ?_|refine wO ?_|refine wP ?_|refine wQ ?_|refine wR ?_|refine wS ?_|refine wT ?_|refine wU ?_|refine wV ?_|refine wW ?_|refine wX ?_)
              refine ⟨(pv, hint, H3, d2), rfl, rfl, by dsimp only; exact (by repeat (first | exact Wk.jk | refine Wk.up rfl ?_)), ?_⟩
              exact ⟨hpv1, hpv2, h3, t3, p2⟩
          · rintro ⟨pv4, hint4, H4, d4⟩ ⟨hpa, hpb, h4, t4, p4⟩
            dsimp only at hpa hpb h4 t4 p4
            dsimp only
            have sz4 : d4.size = d.size := p4.1.trans sz1
            have hB4 : Below (ltc cf) a1 b1 d4 := hB1.perm (by omega) p4
            refine Run.seq ?_
            refine Run.join (β := Hp × Array LF) (fun y => up (up (up (up (up (up (up (up (up jk 0 v) 1 (.int .i64 (a1 : Int))) 2 (.int .i64 (b1 : Int))) 3 (.int .i64 lim2)) 4 (.func (.func g) #[] #[])) 10 (.bool wb)) 11 (.bool wp)) 12 (.int .i64 ((b1 : Int) - a1))) 13 (.int .i64 (pv4 : Int))) (fun y => y.1)
              (fun y => SR (elF 3) 24 k r y.1 v y.2 ∧ Tr r H y.1 ∧ PermIn a1 b1 d1 y.2) ?_ ?_
            · have stay : SR (elF 3) 24 k r H4 v d4 ∧ Tr r H H4 ∧ PermIn a1 b1 d1 d4 := ⟨h4, t4, p4⟩
              cases wb
              · repeat' (first|refine wA ?_|refine wB ?_|refine wH ?_|refine wI ?_|refine wJ ?_|refine wC ?_|refine wD ?_|refine wE ?_|refine wF ?_|refine wG ?_|refine wK ?_|refine wL ?_|refine wM ?_|refine wN ?_|refine wO ?_|refine wP ?_|refine wQ ?_|refine wR ?_|refine wS ?_|refine wT ?_|refine wU ?_|refine wV ?_|refine wW ?_|refine wX ?_)
                refine ⟨(H4, d4), rfl, rfl, by dsimp only; exact (by repeat (first | exact Wk.jk | refine Wk.up rfl ?_)), ?_⟩
                exact stay
              · cases wp
                · repeat' (first|refine wA ?_|refine wB ?_|refine wH ?_|refine wI ?_|refine wJ ?_|refine wC ?_|refine wD ?_|refine wE ?_|refine wF ?_|refine wG ?_|refine wK ?_|refine wL ?_|refine wM ?_|refine wN ?_|refine wO ?_|refine wP ?_|refine wQ ?_|refine wR ?_|refine wS ?_|refine wT ?_|refine wU ?_|refine wV ?_|refine wW ?_|refine wX ?_)
                  refine ⟨(H4, d4), rfl, rfl, by dsimp only; exact (by repeat (first | exact Wk.jk | refine Wk.up rfl ?_)), ?_⟩
                  exact stay
                · repeat' (first|refine wA ?_|refine wB ?_|refine wH ?_|refine wI ?_|refine wJ ?_|refine wC ?_|refine wD ?_|refine wE ?_|refine wF ?_|refine wG ?_|refine wK ?_|refine wL ?_|refine wM ?_|refine wN ?_|refine wO ?_|refine wP ?_|refine wQ ?_|refine wR ?_|refine wS ?_|refine wT ?_|refine wU ?_|refine wV ?_|refine wW ?_|refine wX ?_)
                  refine Ops.cmp rfl rfl rfl (fun hc3 => ?_) (fun hc3 => ?_)
                  · repeat' (first|refine wA ?_|refine wB ?_|refine wH ?_|refine wI ?_|refine wJ ?_|refine wC ?_|refine wD ?_|refine wE ?_|refine wF ?_|refine wG ?_|refine wK ?_|refine wL ?_|refine wM ?_|refine wN ?_|refine wO ?_|refine wP ?_|refine wQ ?_|refine wR ?_|refine wS ?_|refine wT ?_|refine wU ?_|refine wV ?_|refine wW ?_|refine wX ?_)
                    refine Ops.call (partialInsertionSort_ok hcmp (a := a1) (b := b1) h4 (by omega) (by omega) (by omega)) (fun _ _ _ hf => by cases hf) fun _ H5 => ?_
                    rintro ⟨rfl, h5, t5⟩
                    obtain ⟨q1, q2⟩ := partialInsertionSort_holds hO d4 a1 b1 (by omega) (by omega) hB4
                    cases hres : (partialInsertionSort (ltc cf) d4 a1 b1).2
                    · repeat' (first|refine wA ?_|refine wB ?_|refine wH ?_|refine wI ?_|refine wJ ?_|refine wC ?_|refine wD ?_|refine wE ?_|refine wF ?_|refine wG ?_|refine wK ?_|refine wL ?_|refine wM ?_|refine wN ?_|refine wO ?_|refine wP ?_|refine wQ ?_|refine wR ?_|refine wS ?_|refine wT ?_|refine wU ?_|refine wV ?_|refine wW ?_|refine wX ?_)
                      refine ⟨(H5, (partialInsertionSort (ltc cf) d4 a1 b1).1), rfl, rfl, by dsimp only; exact (by repeat (first | exact Wk.jk | refine Wk.up rfl ?_)), ?_⟩
                      exact ⟨h5, t4.trans t5, permIn_trans _ _ _ a1 b1 p4 q1⟩
                    · repeat' (first|refine wA ?_|refine wB ?_|refine wH ?_|refine wI ?_|refine wJ ?_|refine wC ?_|refine wD ?_|refine wE ?_|refine wF ?_|refine wG ?_|refine wK ?_|refine wL ?_|refine wM ?_|refine wN ?_|refine wO ?_|refine wP ?_|refine wQ ?_|refine wR ?_|refine wS ?_|refine wT ?_|refine wU ?_|refine wV ?_|refine wW ?_|refine wX ?_)
                      obtain ⟨w1, w2⟩ := td1 _ (permIn_trans _ _ _ a1 b1 p4 q1) (q2 hres)
                      exact Run.ret ⟨.inl rfl, ResK.nil ⟨⟨_, w1, w2, h5⟩, t4.trans t5⟩⟩
                  · repeat' (first|refine wA ?_|refine wB ?_|refine wH ?_|refine wI ?_|refine wJ ?_|refine wC ?_|refine wD ?_|refine wE ?_|refine wF ?_|refine wG ?_|refine wK ?_|refine wL ?_|refine wM ?_|refine wN ?_|refine wO ?_|refine wP ?_|refine wQ ?_|refine wR ?_|refine wS ?_|refine wT ?_|refine wU ?_|refine wV ?_|refine wW ?_|refine wX ?_)
                    refine ⟨(H4, d4), rfl, rfl, by dsimp only; exact (by repeat (first | exact Wk.jk | refine Wk.up rfl ?_)), ?_⟩
                    exact stay
            · rintro ⟨H5, d5⟩ ⟨h5, t5, p5⟩
              dsimp only at h5 t5 p5
              dsimp only
              have sz5 : d5.size = d.size := p5.1.trans sz1
              have hB5 : Below (ltc cf) a1 b1 d5 := hB1.perm (by omega) p5
              have td5 := td1.perm p5
              refine Run.seq ?_
              refine Run.join (β := Unit) (fun _ => up (up (up (up (up (up (up (up (up jk 0 v) 1 (.int .i64 (a1 : Int))) 2 (.int .i64 (b1 : Int))) 3 (.int .i64 lim2)) 4 (.func (.func g) #[] #[])) 10 (.bool wb)) 11 (.bool wp)) 12 (.int .i64 ((b1 : Int) - a1))) 13 (.int .i64 (pv4 : Int))) (fun _ => H5) (fun _ => True) ?_ ?_
              · repeat' (first|refine wA ?_|refine wB ?_|refine wH ?_|refine wI ?_|refine wJ ?_|refine wC ?_|refine wD ?_|refine wE ?_|refine wF ?_|refine wG ?_|refine wK ?_|refine wL ?_|refine wM ?_|refine wN ?_|refine wO ?_|refine wP ?_|refine wQ ?_|refine wR ?_|refine wS ?_|refine wT ?_|refine wU ?_|refine wV ?_|refine wW ?_|refine wX ?_)
                refine Run.draw [0, 1, 2, 3, 4, 5, 6, 7, 8, 9, 10, 11, 12, 13, 14, 15, 16] Try.checked.mixed (by kernel_rfl) ?_
                repeat' (first|refine wA ?_|refine wB ?_|refine wH ?_|refine wI ?_|refine wJ ?_|refine wC ?_|refine wD ?_|refine wE ?_|refine wF ?_|refine wG ?_|refine wK ?_|refine wL ?_|refine wM ?_|refine wN ?_|refine wO ?_|refine wP ?_|refine wQ ?_|refine wR ?_|refine wS ?_|refine wT ?_|refine wU ?_|refine wV ?_|refine wW ?_|refine wX ?_)
                refine Ops.cmp rfl rfl rfl (fun hc3 => ?_) (fun hc3 => ?_)
                · repeat' (first|refine wA ?_|refine wB ?_|refine wH ?_|refine wI ?_|refine wJ ?_|refine wC ?_|refine wD ?_|refine wE ?_|refine wF ?_|refine wG ?_|refine wK ?_|refine wL ?_|refine wM ?_|refine wN ?_|refine wO ?_|refine wP ?_|refine wQ ?_|refine wR ?_|refine wS ?_|refine wT ?_|refine wU ?_|refine wV ?_|refine wW ?_|refine wX ?_)
                  refine Ops.unS rfl rfl rfl ?_
                  refine Ops.rdS (a1 - 1) h5 rfl rfl rfl (by omega) (by omega) (by kernel_rfl) (by kernel_rfl) fun pz u1 ok1 cu1 => ?_
                  repeat' (first|refine wA ?_|refine wB ?_|refine wH ?_|refine wI ?_|refine wJ ?_|refine wC ?_|refine wD ?_|refine wE ?_|refine wF ?_|refine wG ?_|refine wK ?_|refine wL ?_|refine wM ?_|refine wN ?_|refine wO ?_|refine wP ?_|refine wQ ?_|refine wR ?_|refine wS ?_|refine wT ?_|refine wU ?_|refine wV ?_|refine wW ?_|refine wX ?_)
                  refine Ops.unS rfl rfl rfl ?_
                  refine Ops.rdS pv4 h5 rfl rfl rfl rfl (by omega) (by kernel_rfl) (by kernel_rfl) fun pz u2 ok2 cu2 => ?_
                  repeat' (first|refine wA ?_|refine wB ?_|refine wH ?_|refine wI ?_|refine wJ ?_|refine wC ?_|refine wD ?_|refine wE ?_|refine wF ?_|refine wG ?_|refine wK ?_|refine wL ?_|refine wM ?_|refine wN ?_|refine wO ?_|refine wP ?_|refine wQ ?_|refine wR ?_|refine wS ?_|refine wT ?_|refine wU ?_|refine wV ?_|refine wW ?_|refine wX ?_)
                  refine Ops.callVE rfl (hcmp _ _ _ _ _ ok1 ok2) ?_
                  repeat' (first|refine wA ?_|refine wB ?_|refine wH ?_|refine wI ?_|refine wJ ?_|refine wC ?_|refine wD ?_|refine wE ?_|refine wF ?_|refine wG ?_|refine wK ?_|refine wL ?_|refine wM ?_|refine wN ?_|refine wO ?_|refine wP ?_|refine wQ ?_|refine wR ?_|refine wS ?_|refine wT ?_|refine wU ?_|refine wV ?_|refine wW ?_|refine wX ?_)
                  refine Ops.cmp rfl rfl rfl (fun hc4 => ?_) (fun hc4 => ?_)
                  · repeat' (first|refine wA ?_|refine wB ?_|refine wH ?_|refine wI ?_|refine wJ ?_|refine wC ?_|refine wD ?_|refine wE ?_|refine wF ?_|refine wG ?_|refine wK ?_|refine wL ?_|refine wM ?_|refine wN ?_|refine wO ?_|refine wP ?_|refine wQ ?_|refine wR ?_|refine wS ?_|refine wT ?_|refine wU ?_|refine wV ?_|refine wW ?_|refine wX ?_)
                    refine ⟨(), rfl, rfl, by dsimp only; exact (by repeat (first | exact Wk.jk | refine Wk.up rfl ?_)), ?_⟩
                    trivial
                  · repeat' (first|refine wA ?_|refine wB ?_|refine wH ?_|refine wI ?_|refine wJ ?_|refine wC ?_|refine wD ?_|refine wE ?_|refine wF ?_|refine wG ?_|refine wK ?_|refine wL ?_|refine wM ?_|refine wN ?_|refine wO ?_|refine wP ?_|refine wQ ?_|refine wR ?_|refine wS ?_|refine wT ?_|refine wU ?_|refine wV ?_|refine wW ?_|refine wX ?_)
                    refine Ops.call (partitionEqual_ok hcmp (a := a1) (b := b1) (pivot := pv4) h5 (by omega) hpa hpb (by omega)) (fun _ _ _ hf => by cases hf) fun _ H6 => ?_
                    rintro ⟨rfl, h6, t6⟩
                    obtain ⟨mid, d6, hx⟩ : ∃ mid d6, partitionEqual (ltc cf) d5 a1 b1 pv4 = (mid, d6) := ⟨_, _, rfl⟩
                    rw [hx] at h6 ⊢
                    obtain ⟨q1, q2, q3, q4, q5⟩ := round_eq hO (partitionEqual_holds _) (by omega) hpa hpb (by omega) hB5 (by simp [ltc]; omega) hx
                    dsimp only at h6 ⊢
                    repeat' (first|refine wA ?_|refine wB ?_|refine wH ?_|refine wI ?_|refine wJ ?_|refine wC ?_|refine wD ?_|refine wE ?_|refine wF ?_|refine wG ?_|refine wK ?_|refine wL ?_|refine wM ?_|refine wN ?_|refine wO ?_|refine wP ?_|refine wQ ?_|refine wR ?_|refine wS ?_|refine wT ?_|refine wU ?_|refine wV ?_|refine wW ?_|refine wX ?_)
                    refine ⟨(mid, b1, lim2, wb, wp, H6, d6), by dsimp only; omega, rfl, rfl, by dsimp only; exact (by repeat (first | exact Wk.jk | refine Wk.up rfl ?_)), ?_⟩
                    refine ⟨by dsimp only; omega, by dsimp only; omega, by dsimp only; omega, by dsimp only; omega, by dsimp only; omega, h6, t5.trans t6, by dsimp only; omega, q4, fun R hR1 hR2 => ?_⟩
                    obtain ⟨w1, w2⟩ := q5 R hR1 hR2
                    exact td5 R w1 w2
                · repeat' (first|refine wA ?_|refine wB ?_|refine wH ?_|refine wI ?_|refine wJ ?_|refine wC ?_|refine wD ?_|refine wE ?_|refine wF ?_|refine wG ?_|refine wK ?_|refine wL ?_|refine wM ?_|refine wN ?_|refine wO ?_|refine wP ?_|refine wQ ?_|refine wR ?_|refine wS ?_|refine wT ?_|refine wU ?_|refine wV ?_|refine wW ?_|refine wX ?_)
                  refine ⟨(), rfl, rfl, by dsimp only; exact (by repeat (first | exact Wk.jk | refine Wk.up rfl ?_)), ?_⟩
                  trivial
              · rintro ⟨⟩ _
                repeat' (first|refine wA ?_|refine wB ?_|refine wH ?_|refine wI ?_|refine wJ ?_|refine wC ?_|refine wD ?_|refine wE ?_|refine wF ?_|refine wG ?_|refine wK ?_|refine wL ?_|refine wM ?_|refine wN ?_|refine wO ?_|refine wP ?_|refine wQ ?_|refine wR ?_|refine wS ?_|refine wT ?_|refine wU ?_|refine wV ?_|refine wW ?_|refine wX ?_)
                refine Ops.call (partition_ok hcmp (a := a1) (b := b1) (pivot := pv4) h5 (by omega) hpa hpb (by omega)) (fun _ _ _ hf => by cases hf) fun _ H6 => ?_
                rintro ⟨⟨ap, rfl⟩, h6, t6⟩
                obtain ⟨mid, ap', d6, hx⟩ : ∃ mid ap' d6, partition (ltc cf) d5 a1 b1 pv4 = (mid, ap', d6) := ⟨_, _, _, rfl⟩
                have f1 := partition_fst (ltc cf) d5 a1 b1 pv4
                have f2 := partition_arr (ltc cf) d5 a1 b1 pv4
                rw [hx] at f1 f2
                dsimp only at f1 f2
                rw [← f1] at f2 h6 ⊢
                rw [← f2] at h6
                obtain ⟨q1, q2, q3, q4, q5, q6, q7⟩ := round_part hO (partition_holds _) hpa hpb (by omega) hB5 hx
                repeat' (first|refine wA ?_|refine wB ?_|refine wH ?_|refine wI ?_|refine wJ ?_|refine wC ?_|refine wD ?_|refine wE ?_|refine wF ?_|refine wG ?_|refine wK ?_|refine wL ?_|refine wM ?_|refine wN ?_|refine wO ?_|refine wP ?_|refine wQ ?_|refine wR ?_|refine wS ?_|refine wT ?_|refine wU ?_|refine wV ?_|refine wW ?_|refine wX ?_)
                refine Ops.quo rfl rfl (by omega) (by omega) (by omega) ?_
                repeat' (first|refine wA ?_|refine wB ?_|refine wH ?_|refine wI ?_|refine wJ ?_|refine wC ?_|refine wD ?_|refine wE ?_|refine wF ?_|refine wG ?_|refine wK ?_|refine wL ?_|refine wM ?_|refine wN ?_|refine wO ?_|refine wP ?_|refine wQ ?_|refine wR ?_|refine wS ?_|refine wT ?_|refine wU ?_|refine wV ?_|refine wW ?_|refine wX ?_)
                refine Ops.cmp rfl rfl rfl (fun hc3 => ?_) (fun hc3 => ?_)
                · repeat' (first|refine wA ?_|refine wB ?_|refine wH ?_|refine wI ?_|refine wJ ?_|refine wC ?_|refine wD ?_|refine wE ?_|refine wF ?_|refine wG ?_|refine wK ?_|refine wL ?_|refine wM ?_|refine wN ?_|refine wO ?_|refine wP ?_|refine wQ ?_|refine wR ?_|refine wS ?_|refine wT ?_|refine wU ?_|refine wV ?_|refine wW ?_|refine wX ?_)
                  refine Ops.cmpAny rfl rfl rfl fun nb => ?_
                  repeat' (first|refine wA ?_|refine wB ?_|refine wH ?_|refine wI ?_|refine wJ ?_|refine wC ?_|refine wD ?_|refine wE ?_|refine wF ?_|refine wG ?_|refine wK ?_|refine wL ?_|refine wM ?_|refine wN ?_|refine wO ?_|refine wP ?_|refine wQ ?_|refine wR ?_|refine wS ?_|refine wT ?_|refine wU ?_|refine wV ?_|refine wW ?_|refine wX ?_)
                  refine Ops.call (ih H6 d6 a1 mid lim2 (by omega) h6 (by omega) (by omega) (by omega) q4 (by omega) (by omega)) (fun _ _ _ hf => by cases hf) fun _ H7 => ?_
                  rintro ⟨⟨d7, p7, s7, h7⟩, t7⟩
                  obtain ⟨w1, w2⟩ := q6 d7 p7 s7
                  repeat' (first|refine wA ?_|refine wB ?_|refine wH ?_|refine wI ?_|refine wJ ?_|refine wC ?_|refine wD ?_|refine wE ?_|refine wF ?_|refine wG ?_|refine wK ?_|refine wL ?_|refine wM ?_|refine wN ?_|refine wO ?_|refine wP ?_|refine wQ ?_|refine wR ?_|refine wS ?_|refine wT ?_|refine wU ?_|refine wV ?_|refine wW ?_|refine wX ?_)
                  have e1 : (mid : Int) + 1 = ((mid + 1 : Nat) : Int) := by omega
                  rw [e1]
                  refine ⟨(mid + 1, b1, lim2, nb, ap, H7, d7), by dsimp only; omega, rfl, rfl, by dsimp only; exact (by repeat (first | exact Wk.jk | refine Wk.up rfl ?_)), ?_⟩
                  have := p7.1
                  refine ⟨by dsimp only; omega, by dsimp only; omega, by dsimp only; omega, by dsimp only; omega, by dsimp only; omega, h7, (t5.trans t6).trans t7, by dsimp only; omega, w1, fun R hR1 hR2 => ?_⟩
                  obtain ⟨w3, w4⟩ := w2 R hR1 hR2
                  exact td5 R w3 w4
                · repeat' (first|refine wA ?_|refine wB ?_|refine wH ?_|refine wI ?_|refine wJ ?_|refine wC ?_|refine wD ?_|refine wE ?_|refine wF ?_|refine wG ?_|refine wK ?_|refine wL ?_|refine wM ?_|refine wN ?_|refine wO ?_|refine wP ?_|refine wQ ?_|refine wR ?_|refine wS ?_|refine wT ?_|refine wU ?_|refine wV ?_|refine wW ?_|refine wX ?_)
                  refine Ops.cmpAny rfl rfl rfl fun nb => ?_
                  repeat' (first|refine wA ?_|refine wB ?_|refine wH ?_|refine wI ?_|refine wJ ?_|refine wC ?_|refine wD ?_|refine wE ?_|refine wF ?_|refine wG ?_|refine wK ?_|refine wL ?_|refine wM ?_|refine wN ?_|refine wO ?_|refine wP ?_|refine wQ ?_|refine wR ?_|refine wS ?_|refine wT ?_|refine wU ?_|refine wV ?_|refine wW ?_|refine wX ?_)
                  have e1 : (mid : Int) + 1 = ((mid + 1 : Nat) : Int) := by omega
                  rw [e1]
                  refine Ops.call (ih H6 d6 (mid + 1) b1 lim2 (by omega) h6 (by omega) (by omega) (by omega) q5 (by omega) (by omega)) (fun _ _ _ hf => by cases hf) fun _ H7 => ?_
                  rintro ⟨⟨d7, p7, s7, h7⟩, t7⟩
                  obtain ⟨w1, w2⟩ := q7 d7 p7 s7
                  repeat' (first|refine wA ?_|refine wB ?_|refine wH ?_|refine wI ?_|refine wJ ?_|refine wC ?_|refine wD ?_|refine wE ?_|refine wF ?_|refine wG ?_|refine wK ?_|refine wL ?_|refine wM ?_|refine wN ?_|refine wO ?_|refine wP ?_|refine wQ ?_|refine wR ?_|refine wS ?_|refine wT ?_|refine wU ?_|refine wV ?_|refine wW ?_|refine wX ?_)
                  refine ⟨(a1, mid, lim2, nb, ap, H7, d7), by dsimp only; omega, rfl, rfl, by dsimp only; exact (by repeat (first | exact Wk.jk | refine Wk.up rfl ?_)), ?_⟩
                  have := p7.1
                  refine ⟨by dsimp only; omega, by dsimp only; omega, by dsimp only; omega, by dsimp only; omega, by dsimp only; omega, h7, (t5.trans t6).trans t7, by dsimp only; omega, w1, fun R hR1 hR2 => ?_⟩
                  obtain ⟨w3, w4⟩ := w2 R hR1 hR2
                  exact td5 R w3 w4

theorem SortFunc_ok (hO : SWO (ltc cf)) {H : Hp} {d : Array LF} (h : SR (elF 3) 24 k r H v d) (hn : d.size ≤ 1099511627776) :
    CallK Try.prog 102 [v, .func (.func g) #[] #[]] H (fun _ H' => (∃ d', PermIn 0 d.size d d' ∧ SortedIn (ltc cf) 0 d.size d' ∧ SR (elF 3) 24 k r H' v d') ∧ Tr r H H') := by
  have hl : d.toList.length = d.size := Array.length_toList
  have hsl := h.ac.sl
  have hb : bitsLen d.size ≤ 62 := (bitsLen_le_iff _ 62).2 (by omega)
  refine (CallK.enter Try.func102 rfl rfl Try.ntmps102 Try.results102 rfl ?_)
  repeat' (first|refine wA ?_|refine wB ?_|refine wH ?_|refine wI ?_|refine wJ ?_|refine wC ?_|refine wD ?_|refine wE ?_|refine wF ?_|refine wG ?_|refine wK ?_|refine wL ?_|refine wM ?_|refine wN ?_|refine wO ?_|refine wP ?_|refine wQ ?_|refine wR ?_|refine wS ?_|refine wT ?_|refine wU ?_|refine wV ?_|refine wW ?_|refine wX ?_)
  rw [hl]
  refine Ops.convK rfl (by kernel_rfl) (by kernel_rfl) (wrap_u64 (by omega) (by omega)) ?_
  refine Ops.callE (Len_ok (x := d.size) (by omega)) ?_
  repeat' (first|refine wA ?_|refine wB ?_|refine wH ?_|refine wI ?_|refine wJ ?_|refine wC ?_|refine wD ?_|refine wE ?_|refine wF ?_|refine wG ?_|refine wK ?_|refine wL ?_|refine wM ?_|refine wN ?_|refine wO ?_|refine wP ?_|refine wQ ?_|refine wR ?_|refine wS ?_|refine wT ?_|refine wU ?_|refine wV ?_|refine wW ?_|refine wX ?_)
  refine Ops.call (pdqsort_ok hcmp hO d.size H d 0 d.size _ (by omega) h (by omega) (by omega) hn (Or.inl rfl) (by omega) (by omega)) (fun _ _ _ hf => by cases hf) fun _ H1 => ?_
  intro hres
  repeat' (first|refine wA ?_|refine wB ?_|refine wH ?_|refine wI ?_|refine wJ ?_|refine wC ?_|refine wD ?_|refine wE ?_|refine wF ?_|refine wG ?_|refine wK ?_|refine wL ?_|refine wM ?_|refine wN ?_|refine wO ?_|refine wP ?_|refine wQ ?_|refine wR ?_|refine wS ?_|refine wT ?_|refine wU ?_|refine wV ?_|refine wW ?_|refine wX ?_)
  exact ⟨.inr rfl, ResK.nil hres⟩

end
end Go.Proofs.Ytefmjpbmdoebaaa

/- The abstract machine, part 26: rows that are made shorter in place. -/
set_option linter.unusedVariables false
set_option linter.unusedSimpArgs false
set_option linter.unusedSectionVars false
namespace Go.Proofs.Ytefmjpbmdoebaaa
open Go Go.RowKit

theorem zeroCells_one {z : Value} (hz : z.cells = #[z]) (n : Nat) : (Builtin.zeroCells z.cells n).toList = List.replicate n z := by
  rw [hz]
  simp [Builtin.zeroCells]
  apply List.ext_getElem
  · simp
  · intro i h1 h2
    simp [Nat.mod_one]

section
variable {P : Program} {o : Oper} {ρ : Operand → Value} {H H' : Hp} {r : Value}

/-- clear(x), x the end of a row of the call's own: what is cleared is forgotten. -/
theorem aev_clear {t e : TypeId} {x : Operand} {id off n : Nat} {ob : Ob} {i : TypeInfo} {z : Value} (ho : o.op = .call { callee := .builtin .clear, args := #[x], argTypes := #[t] }) (ht : P.underlying t = some (.slice e)) (hi : P.info? e = some i) (hz : i.zero = some z) (hc1 : z.cells = #[z]) (ho1 : z.oneCell' = true)
    (hx : ρ x = .slice (some ⟨id, off, none⟩) n n) (hn : 0 < n) (hg : H.get id = some ob) (hlo : H.own id = true) (hfit : off + n ≤ ob.cs.length) :
    aev P o ρ H undef (H.upd id ⟨ob.e, ob.sz, ob.cs.take off⟩ (Hp.lt hg)) := by
  intro B β a w hxs hr next Q hnx
  have g1 := hxs x (by rw [ho]; simp [Op.operands, Call.operands])
  rw [hx] at g1
  generalize he : a.eval x = u at g1
  cases g1 with
  | slice hb hof hlc hm hk0 =>
    rename_i off' b k c
    have hoff : off' = off := by
      rcases hof with h | ⟨h, _⟩
      · exact h
      · omega
    subst hoff
    obtain ⟨hB, K, cur, hk, hcur, hK, hl⟩ := hr.own id ob b k hg hb hlo
    have hcell : ∀ (j : Nat) (v : Value), ob.cs[j]? = some v → ∃ u, cur.toList[j]? = some u ∧ VR β v u := by
      intro j v hj
      obtain ⟨u, h2, h3⟩ := hr.cell id ob b k hg hb j v hj
      refine ⟨u, ?_, h3⟩
      unfold World.cell? at h2
      rw [hcur] at h2
      simpa using h2
    have hst := run_storeCells_at P b off' ob.e (List.replicate n z) 0 cur w hcur (by simp; omega) (by intro v hv; rw [List.eq_of_mem_replicate hv]; exact ho1)
    simp only [Nat.add_zero] at hst
    have hnew : (cur.toList.take off' ++ List.replicate n z ++ cur.toList.drop (off' + (List.replicate n z).length)).toArray.size = cur.size := by
      simp; omega
    obtain ⟨h3, h4⟩ := hr.upd (w' := w.setRow b (cur.toList.take off' ++ List.replicate n z ++ cur.toList.drop (off' + (List.replicate n z).length)).toArray) (ob' := ⟨ob.e, ob.sz, ob.cs.take off'⟩) hg hb hlo (Hp.lt hg) rfl rfl (by simp; omega) (by simp) (by simp) (by simp) (by simp)
      (fun j hj => setRow_other w b j _ hj) (setRow_heap w b cur _ ob.e _ hcur)
      (fun K' sz h => by rw [hk] at h; cases h; rw [hnew]; exact hK)
      (fun j v hj => by
        have hjo : j < off' := by
          have := (List.getElem?_eq_some_iff.1 hj).1
          simp at this; omega
        have hj' : ob.cs[j]? = some v := by
          rw [List.getElem?_take_of_lt hjo] at hj; exact hj
        obtain ⟨u, h5, h6⟩ := hcell j v hj'
        refine ⟨u, ?_, h6⟩
        rw [List.append_assoc]
        simp only [List.getElem?_toArray]
        rw [List.getElem?_append_left (by simp; have := (List.getElem?_eq_some_iff.1 h5).1; simp at this; omega), List.getElem?_take_of_lt hjo]
        exact h5)
    have hzc := zeroCells_one hc1 n
    have hrun : (execOp a.eval o).run P w = .ok (.value (.tuple #[])) (w.setRow b (cur.toList.take off' ++ List.replicate n z ++ cur.toList.drop (off' + (List.replicate n z).length)).toArray) := by
      obtain ⟨m, rfl⟩ : ∃ m, n = m + 1 := ⟨n - 1, by omega⟩
      simp [execOp, ho, resolve, invoke, builtin, he, Builtin.clear_, run_underlying ht, zeroValue, typeInfo, hi, hz, hzc] at hst ⊢
      rw [hst]
      rfl
    unfold Oper.wp
    rw [hrun]
    exact hnx β undef _ VR.undef h3 h4

end

/-- A slice of n elements of a row that has the cells of d alone. -/
structure Cu {α : Type} {c : Cd α} (w : El c) (e k r : Nat) (H : Hp) (v : Value) (n : Nat) (d : List α) : Prop where
  row : ∃ id ob, v = .slice (some ⟨id, 0, none⟩) n n ∧ H.get id = some ob ∧ H.own id = true ∧ k ≤ H.root id ∧ H.root id = r ∧ ob.e = e ∧ ob.sz = c.sz ∧ cellsIn c H ob.cs d
  le : d.length ≤ n
  mx : n ≤ maxLen
  el : ∀ a ∈ d, w.E H r a

/-- The end of a slice. -/
def SubS (v u : Value) (k n : Nat) : Prop := ∃ id, v = .slice (some ⟨id, 0, none⟩) n n ∧ u = .slice (some ⟨id, k, none⟩) (n - k) (n - k)

section
variable {α : Type} [Inhabited α] {c : Cd α} {w : El c} {e k r : Nat} {H H' : Hp} {v u : Value} {d : Array α}

theorem SR.sub (h : SR w e k r H v d) (hs : c.sz = 1) {q : Nat} (hu : SubS v u q d.size) (hq : q < d.size) : Sl c H u (d.toList.drop q) := by
  obtain ⟨id, h1, h2⟩ := hu
  rcases h.ac with ⟨h3, _⟩ | ⟨id', ob, g1, g2, g3, g4, g5, g6, g7, g8, g9⟩
  · rw [h3] at h1; cases h1
  · rw [h1] at g1; cases g1
    have hlen : (d.toList.drop q).length = d.size - q := by rw [List.length_drop]; simp
    refine .inr ⟨id, q, ob, by rw [hlen]; exact h2, g2, .inl g6, by rw [hlen]; simp at g7; omega, fun i a hi => ?_⟩
    rw [List.getElem?_drop] at hi
    have := g9 _ a hi
    rw [hs] at this ⊢
    rw [Nat.mul_one] at this ⊢
    exact this

theorem SR.sz (h : SR w e k r H v d) : d.size ≤ maxLen := by simpa using h.ac.sl.max

end

section
variable {P : Program} {fl : Bool} {all : Array Oper} {rest : List Oper} {n : Nat} {T : Nat → Value} {H H' : Hp} {K : St → Prop} {d1 d2 : Nat} {ty1 ty2 ty3 ty4 : TypeId} {ps1 ps2 ps3 ps4 : String} {af1 af2 af3 af4 : Array Edge} {v : Value} {x y x1 y1 z1 x2 y2 z2 : Operand} {α : Type} [Inhabited α] {c : Cd α} {w : El c} {e k r : Nat} {d : Array α} {t te : TypeId}

/-- x[q:] of the row. -/
theorem Ops.subS {ki : IntKind} {z : Int} (q : Nat) (h : SR w e k r H v d) (hx : rd T x = v) (hs : c.sz = 1) (hy : rd T y = .int ki z) (hz : z = q) (hq : q < d.size) (ht : slA P t 1 = true)
    (kk : ∀ u, SubS v u q d.size → Ops P false all rest ⟨n, up T d1 u, H⟩ K) : Ops P false all (⟨some d1, .slice t x (some y) none none, ty1, ps1, af1, none⟩ :: rest) ⟨n, T, H⟩ K := by
  subst hx hz
  obtain ⟨i, z0, g1, g2, g3, _⟩ := slA_at ht
  rcases h.ac with ⟨_, h3⟩ | ⟨id, ob, e1, e2, e3, e4, e5, e6, e7, e8, e9⟩
  · have : d.size = 0 := by simpa using congrArg List.length h3
    omega
  · have hlen : d.toList.length = d.size := by simp
    rw [hlen] at e1
    refine .plain (aev_slice_l rfl g1 g2 e1 hy e2 (by rw [g3, e6, hs]; exact .inl rfl) (by omega) (by omega)) (kk _ ⟨id, e1, ?_⟩)
    rw [g3]
    simp

/-- An element of the row, written: one that is there already. -/
theorem Ops.putS {ki : IntKind} {z : Int} (q : Nat) {a : α} {u1 : Value} (h : SR w e k r H v d) (hx : rd T x = v) (hs : c.sz = 1) (hy : rd T y = .int ki z) (hz : z = q) (hq : q < d.size) (hz1 : rd T z1 = u1) (ok1 : c.ok H [u1] a) (c1 : cellsOf u1 = [u1]) (n1 : z1 ≠ .tmp d1) (ha : w.E H r a) (ht : slA P t 1 = true) (hte : P.elem t = te)
    (kk : ∀ p H', SR w e k r H' v (d.setIfInBounds q a) → Mod r H H' → Ops P fl all rest ⟨n, up T d1 p, H'⟩ K) :
    Ops P fl all (⟨some d1, .indexAddr t x y, ty1, ps1, af1, none⟩ :: ⟨none, .store te (.tmp d1) z1, ty2, ps2, af2, none⟩ :: rest) ⟨n, T, H⟩ K := by
  subst hx hz
  obtain ⟨rt, hkr⟩ := h.rt (by omega)
  refine Ops.set (a := a) h.ac rt hy (by omega) (by simpa using hq) (by rw [hz1, c1]; exact ok1) n1 (by rw [hs]; exact ht) hte (fun H' hm cs b hb hok => w.mod (by rcases hb with hb | hb; exact h.el b hb; subst hb; exact ha) hm hok) fun p H1 m1 a1 => ?_
  have e1 : d.toList.set (q : Int).toNat a = (d.setIfInBounds q a).toList := by rw [Array.toList_setIfInBounds]; rfl
  rw [e1] at a1
  refine kk p H1 ⟨a1, fun _ => ⟨rt.mod m1, hkr⟩, fun b hb => w.emod ?_ m1⟩ m1
  rw [Array.toList_setIfInBounds] at hb
  rcases List.mem_or_eq_of_mem_set hb with hb | hb
  · exact h.el b hb
  · subst hb; exact ha

/-- clear(x[q:]) -/
theorem Ops.cutS {ki : IntKind} {z : Int} {tu : TypeId} (q : Nat) (h : SR w e k r H v d) (hx : rd T x = v) (hs : c.sz = 1) (hy : rd T y = .int ki z) (hz : z = q) (hq : q < d.size) (ht : slA P t 1 = true) (htu : tu = t) (hcell : ∀ z0, ((P.info? (P.elem t)).bind (·.zero)) = some z0 → z0.cells = #[z0] ∧ z0.oneCell' = true)
    (kk : ∀ u H', Cu w e k r H' v d.size (d.toList.take q) → Mod r H H' → Ops P false all rest ⟨n, up T d1 u, H'⟩ K) :
    Ops P false all (⟨some d1, .slice t x (some y) none none, ty1, ps1, af1, none⟩ :: ⟨none, .call { callee := .builtin .clear, args := #[.tmp d1], argTypes := #[tu] }, ty2, ps2, af2, none⟩ :: rest) ⟨n, T, H⟩ K := by
  subst htu
  refine Ops.subS q h hx hs hy hz hq ht fun u hu => ?_
  obtain ⟨id, h1, h2⟩ := hu
  obtain ⟨i, z0, g1, g2, g3, g4, g5, g6, g7⟩ := slA_at ht
  obtain ⟨k1, k2⟩ := hcell z0 (by rw [g2]; exact g5)
  obtain ⟨rt, hkr⟩ := h.rt (by omega)
  rcases h.ac with ⟨h3, _⟩ | ⟨id', ob, e1, e2, e3, e4, e5, e6, e7, e8, e9⟩
  · rw [h3] at h1; cases h1
  · rw [h1] at e1; cases e1
    have hroot : H.root id = r := by
      obtain ⟨id2, f1, f2, f3, f4⟩ := rt
      rw [h1] at f1
      injection f1 with f1
      have f1' : id = id2 := f1
      subst f1'; exact f4
    have hlen : d.toList.length = d.size := by simp
    rw [hlen, hs, Nat.mul_one] at e8
    have hst := aev_clear (P := P) (o := ⟨none, .call { callee := .builtin .clear, args := #[.tmp d1], argTypes := #[tu] }, ty2, ps2, af2, none⟩) (ρ := rd (up T d1 u)) (H := H) rfl g1 g2 g5 k1 k2 (by show (if d1 = d1 then u else _) = _; rw [if_pos rfl]; exact h2) (by omega) e2 e3 (by omega)
    refine .write0 rfl hst (Nat.le_refl _) ?_
    have hm : Mod r H (H.upd id ⟨ob.e, ob.sz, ob.cs.take q⟩ (Hp.lt e2)) := by rw [← hroot]; exact Mod.upd (Hp.lt e2)
    refine kk _ _ ⟨⟨id, _, h1, Hp.upd_get _ _ _ _, e3, e4, hroot, e5, e6, ?_⟩, by simp; omega, by have := h.sz; exact this, fun a ha => w.emod (h.el a (List.mem_of_mem_take ha)) hm⟩ hm
    refine ⟨by dsimp only; rw [hs]; simp; omega, fun j a hj => ?_⟩
    have hjq : j < q := by have := (List.getElem?_eq_some_iff.1 hj).1; simp at this; omega
    have hja : d.toList[j]? = some a := by rw [List.getElem?_take_of_lt hjq] at hj; exact hj
    dsimp only
    rw [hs, cut_take (by omega)]
    have := e9 j a hja
    rw [hs] at this
    exact w.mod (h.el a (List.mem_of_getElem? hja)) hm this

/-- x[:q], what is behind having been cleared. -/
theorem Ops.keepS {ki : IntKind} {z : Int} {m : Nat} {l : List α} (h : Cu w e k r H v m l) (hx : rd T x = v) (hs : c.sz = 1) (hy : rd T y = .int ki z) (hz : z = l.length) (ht : slA P t 1 = true)
    (kk : ∀ u, SR w e k r H u l.toArray → Ops P false all rest ⟨n, up T d1 u, H⟩ K) : Ops P false all (⟨some d1, .slice t x none (some y) none, ty1, ps1, af1, none⟩ :: rest) ⟨n, T, H⟩ K := by
  subst hx hz
  obtain ⟨i, z0, g1, g2, g3, _⟩ := slA_at ht
  obtain ⟨id, ob, e1, e2, e3, e4, e5, e6, e7, e8⟩ := h.row
  have := h.le
  have := h.mx
  refine .plain (aev_slice_h rfl g1 g2 e1 hy e2 (by rw [g3, e7, hs]; exact .inl rfl) (by omega) (by omega)) (kk _ ⟨?_, fun _ => ⟨⟨id, rfl, Hp.lt e2, e3, e5⟩, by omega⟩, by simpa using h.el⟩)
  exact Ac.mk (by simp) e2 e3 e4 e6 e7 (by simp; omega) (by simpa using e8)

end
end Go.Proofs.Ytefmjpbmdoebaaa

/- Rows of rows: copies, and neighbours that are equal dropped. -/
set_option linter.unusedVariables false
namespace Go.Proofs.Ytefmjpbmdoebaaa
open Go Go.RowKit Go.Sort

/-- Behind p: what is not equal to what stands ahead of it. -/
def cmpt : LF → List LF → List LF
  | _, [] => []
  | p, a :: t => if a.1 = p.1 then cmpt a t else a :: cmpt a t
/-- Neighbours that are equal: the first one alone. -/
def compactL : List LF → List LF
  | [] => []
  | a :: t => a :: cmpt a t

theorem cmpt_snoc : ∀ (t : List LF) (p a : LF), cmpt p (t ++ [a]) = if a.1 = ((p :: t).getLast (by simp)).1 then cmpt p t else cmpt p t ++ [a]
  | [], p, a => by by_cases h : a.1 = p.1 <;> simp [cmpt, h]
  | b :: t, p, a => by
    have ih := cmpt_snoc t b a
    simp only [List.cons_append, cmpt]
    rw [ih]
    have e : (p :: b :: t).getLast (by simp) = (b :: t).getLast (by simp) := List.getLast_cons (by simp)
    rw [e]
    split <;> split <;> simp
theorem compactL_snoc (l : List LF) (p a : LF) (hp : l.getLast? = some p) : compactL (l ++ [a]) = if a.1 = p.1 then compactL l else compactL l ++ [a] := by
  cases l with
  | nil => simp at hp
  | cons b t =>
    have hl : (b :: t).getLast (by simp) = p := by rw [List.getLast?_eq_some_getLast (by simp)] at hp; exact Option.some.inj hp
    simp only [List.cons_append, compactL]
    rw [cmpt_snoc, hl]
    split <;> simp
theorem cmpt_sub : ∀ (t : List LF) (p : LF), List.Sublist (cmpt p t) t
  | [], p => .slnil
  | a :: t, p => by
    simp only [cmpt]
    split
    · exact (cmpt_sub t a).cons a
    · exact (cmpt_sub t a).cons_cons a
theorem compactL_sub : ∀ l : List LF, List.Sublist (compactL l) l
  | [] => .slnil
  | a :: t => (cmpt_sub t a).cons_cons a
theorem take_last {α : Type} {l : List α} {i : Nat} {a : α} (h : l[i]? = some a) : (l.take (i + 1)).getLast? = some a := by
  rw [take_snoc h]; simp
/-- No two neighbours are equal. -/
theorem compactL_id {l : List LF} : ∀ n, n ≤ l.length → (∀ i a b, i + 1 < n → l[i]? = some a → l[i + 1]? = some b → b.1 ≠ a.1) → compactL (l.take n) = l.take n := by
  intro n
  induction n with
  | zero => intro _ _; simp [compactL]
  | succ n ih =>
    intro hn h
    have hlt : n < l.length := by omega
    have hb : l[n]? = some l[n] := List.getElem?_eq_getElem hlt
    rw [take_snoc hb]
    cases n with
    | zero => simp [compactL, cmpt]
    | succ m =>
      have hm : l[m]? = some l[m] := List.getElem?_eq_getElem (by omega)
      rw [compactL_snoc _ _ _ (take_last hm), if_neg (h m _ _ (by omega) hm hb), ih (by omega) (fun i a b hi => h i a b (by omega))]

theorem clone2_ok {H : Hp} {v : Value} {ls : List LF} (h : Sl (cF cI 3) H v ls) (hl : ls.length ≤ 34359738367) : CallK Try.prog 101 [v] H (fun r H' => Calm H H' ∧ Ac (cF cI 3) 24 H.nxt H' r ls) := by
  obtain ⟨p, hp⟩ := h.val
  refine (CallK.enter Try.func101 rfl rfl Try.ntmps101 Try.results101 rfl ?_)
  repeat' (first|refine wA ?_|refine wB ?_|refine wH ?_|refine wI ?_|refine wJ ?_|refine wC ?_|refine wD ?_|refine wE ?_|refine wF ?_|refine wG ?_|refine wK ?_|refine wL ?_|refine wM ?_|refine wN ?_|refine wO ?_|refine wP ?_|refine wQ ?_|refine wR ?_|refine wS ?_|refine wT ?_|refine wU ?_|refine wV ?_|refine wW ?_|refine wX ?_)
  refine Ops.isnil (cF cI 3) hp (by kernel_rfl) ?_
  cases p with
  | none =>
    have hls : ls = [] := by
      rcases h with ⟨h, _⟩ | ⟨id, off, ob, h1, _⟩
      · exact h
      · rw [hp] at h1; cases h1
    subst hls
    repeat' (first|refine wA ?_|refine wB ?_|refine wH ?_|refine wI ?_|refine wJ ?_|refine wC ?_|refine wD ?_|refine wE ?_|refine wF ?_|refine wG ?_|refine wK ?_|refine wL ?_|refine wM ?_|refine wN ?_|refine wO ?_|refine wP ?_|refine wQ ?_|refine wR ?_|refine wS ?_|refine wT ?_|refine wU ?_|refine wV ?_|refine wW ?_|refine wX ?_)
    refine Run.ret ⟨.inl rfl, ResK.tmp rfl (by conv => lhs; whnf) (ResK.nil ?_)⟩
    exact ⟨Calm.refl H, Ac.nil⟩
  | some q =>
    repeat' (first|refine wA ?_|refine wB ?_|refine wH ?_|refine wI ?_|refine wJ ?_|refine wC ?_|refine wD ?_|refine wE ?_|refine wF ?_|refine wG ?_|refine wK ?_|refine wL ?_|refine wM ?_|refine wN ?_|refine wO ?_|refine wP ?_|refine wQ ?_|refine wR ?_|refine wS ?_|refine wT ?_|refine wU ?_|refine wV ?_|refine wW ?_|refine wX ?_)
    refine Ops.lit0 (cF cI 3) 24 H.nxt (by kernel_rfl) (by kernel_rfl) (Nat.le_refl _) fun u H1 a1 c1 p1 => ?_
    repeat' (first|refine wA ?_|refine wB ?_|refine wH ?_|refine wI ?_|refine wJ ?_|refine wC ?_|refine wD ?_|refine wE ?_|refine wF ?_|refine wG ?_|refine wK ?_|refine wL ?_|refine wM ?_|refine wN ?_|refine wO ?_|refine wP ?_|refine wQ ?_|refine wR ?_|refine wS ?_|refine wT ?_|refine wU ?_|refine wV ?_|refine wW ?_|refine wX ?_)
    refine Ops.cat rfl (rdF rdI) a1 (h.calm c1) c1.1 (by kernel_rfl) (by kernel_rfl) (by simp; omega) fun u2 H2 a2 g2 => ?_
    repeat' (first|refine wA ?_|refine wB ?_|refine wH ?_|refine wI ?_|refine wJ ?_|refine wC ?_|refine wD ?_|refine wE ?_|refine wF ?_|refine wG ?_|refine wK ?_|refine wL ?_|refine wM ?_|refine wN ?_|refine wO ?_|refine wP ?_|refine wQ ?_|refine wR ?_|refine wS ?_|refine wT ?_|refine wU ?_|refine wV ?_|refine wW ?_|refine wX ?_)
    refine Run.ret ⟨.inl rfl, ResK.tmp rfl (by conv => lhs; whnf) (ResK.nil ?_)⟩
    exact ⟨g2.calm H (Nat.le_refl _) c1, (by simpa using a2 : Ac (cF cI 3) 24 H.nxt H2 u2 ls)⟩

theorem set_other! {d : Array LF} {w i : Nat} {a : LF} (h : i ≠ w) : (d.setIfInBounds w a)[i]! = d[i]! := by rw [getElem!_def, getElem!_def, Array.getElem?_setIfInBounds, if_neg (Ne.symm h)]
theorem arr_mem {d : Array LF} {i : Nat} (h : i < d.size) : d[i]! ∈ d.toList := by rw [getElem!_pos d i h]; simp
theorem arr_get! {d : Array LF} {i : Nat} (h : i < d.size) : d.toList[i]? = some d[i]! := by rw [getElem!_pos d i h]; simp [h]

section
variable {g : FuncId} (heq : ∀ (H : Hp) (u1 u2 : Value) (a b : LF), (cF cI 3).ok H [u1] a → (cF cI 3).ok H [u2] b → acall Try.prog g [u1, u2] H (.bool (dec (a.1 = b.1))) H)
  {v : Value} {k r : Nat} {H : Hp} {d : Array LF}
include heq

set_option maxHeartbeats 1000000 in
theorem CompactFunc_ok (h : SR (elF 3) 24 k r H v d) (hn : d.size ≤ 1099511627776) :
    CallK Try.prog 103 [v, .func (.func g) #[] #[]] H (fun res H' => SR (elF 3) 24 k r H' res (compactL d.toList).toArray ∧ Tr r H H') := by
  have hl : d.toList.length = d.size := Array.length_toList
  have hsl := h.ac.sl
  refine (CallK.enter Try.func103 rfl rfl Try.ntmps103 Try.results103 rfl ?_)
  repeat' (first|refine wA ?_|refine wB ?_|refine wH ?_|refine wI ?_|refine wJ ?_|refine wC ?_|refine wD ?_|refine wE ?_|refine wF ?_|refine wG ?_|refine wK ?_|refine wL ?_|refine wM ?_|refine wN ?_|refine wO ?_|refine wP ?_|refine wQ ?_|refine wR ?_|refine wS ?_|refine wT ?_|refine wU ?_|refine wV ?_|refine wW ?_|refine wX ?_)
  rw [hl]
  refine Ops.cmp rfl rfl rfl (fun hc1 => ?_) (fun hc1 => ?_)
  · repeat' (first|refine wA ?_|refine wB ?_|refine wH ?_|refine wI ?_|refine wJ ?_|refine wC ?_|refine wD ?_|refine wE ?_|refine wF ?_|refine wG ?_|refine wK ?_|refine wL ?_|refine wM ?_|refine wN ?_|refine wO ?_|refine wP ?_|refine wQ ?_|refine wR ?_|refine wS ?_|refine wT ?_|refine wU ?_|refine wV ?_|refine wW ?_|refine wX ?_)
    refine Run.ret ⟨.inl rfl, ResK.tmp rfl (by conv => lhs; whnf) (ResK.nil ?_)⟩
    have e : compactL d.toList = d.toList := by
      have := compactL_id (l := d.toList) d.size (by omega) (fun i a b hi => by omega)
      rwa [take_end (by omega)] at this
    rw [e]
    exact ⟨(by simpa using h : SR (elF 3) 24 k r H v d.toList.toArray), Tr.refl⟩
  · repeat' (first|refine wA ?_|refine wB ?_|refine wH ?_|refine wI ?_|refine wJ ?_|refine wC ?_|refine wD ?_|refine wE ?_|refine wF ?_|refine wG ?_|refine wK ?_|refine wL ?_|refine wM ?_|refine wN ?_|refine wO ?_|refine wP ?_|refine wQ ?_|refine wR ?_|refine wS ?_|refine wT ?_|refine wU ?_|refine wV ?_|refine wW ?_|refine wX ?_)
    refine Run.loopW (fun (x : Nat) => d.size - x) (fun x => up (up (up jk 0 v) 1 (.func (.func g) #[] #[])) 5 (.int .i64 (x : Int))) (fun _ => H) (fun x => 0 < x ∧ x ≤ d.size ∧ ∀ i a b, i + 1 < x → d.toList[i]? = some a → d.toList[i + 1]? = some b → b.1 ≠ a.1) 1 rfl (by repeat (first | exact Wk.jk | refine Wk.up rfl ?_)) ⟨by omega, by omega, fun i a b hi => by omega⟩ ?_
    rintro q ⟨hq0, hq1, hne⟩
    repeat' (first|refine wA ?_|refine wB ?_|refine wH ?_|refine wI ?_|refine wJ ?_|refine wC ?_|refine wD ?_|refine wE ?_|refine wF ?_|refine wG ?_|refine wK ?_|refine wL ?_|refine wM ?_|refine wN ?_|refine wO ?_|refine wP ?_|refine wQ ?_|refine wR ?_|refine wS ?_|refine wT ?_|refine wU ?_|refine wV ?_|refine wW ?_|refine wX ?_)
    rw [hl]
    refine Ops.cmp rfl rfl rfl (fun hc2 => ?_) (fun hc2 => ?_)
    · repeat' (first|refine wA ?_|refine wB ?_|refine wH ?_|refine wI ?_|refine wJ ?_|refine wC ?_|refine wD ?_|refine wE ?_|refine wF ?_|refine wG ?_|refine wK ?_|refine wL ?_|refine wM ?_|refine wN ?_|refine wO ?_|refine wP ?_|refine wQ ?_|refine wR ?_|refine wS ?_|refine wT ?_|refine wU ?_|refine wV ?_|refine wW ?_|refine wX ?_)
      refine Run.draw [0, 1, 2, 3, 4, 5, 6, 7, 8, 9, 10] Try.checked.mixed (by kernel_rfl) ?_
      repeat' (first|refine wA ?_|refine wB ?_|refine wH ?_|refine wI ?_|refine wJ ?_|refine wC ?_|refine wD ?_|refine wE ?_|refine wF ?_|refine wG ?_|refine wK ?_|refine wL ?_|refine wM ?_|refine wN ?_|refine wO ?_|refine wP ?_|refine wQ ?_|refine wR ?_|refine wS ?_|refine wT ?_|refine wU ?_|refine wV ?_|refine wW ?_|refine wX ?_)
      refine Ops.rdS q h rfl rfl rfl rfl (by omega) (by kernel_rfl) (by kernel_rfl) fun pz u1 ok1 cu1 => ?_
      repeat' (first|refine wA ?_|refine wB ?_|refine wH ?_|refine wI ?_|refine wJ ?_|refine wC ?_|refine wD ?_|refine wE ?_|refine wF ?_|refine wG ?_|refine wK ?_|refine wL ?_|refine wM ?_|refine wN ?_|refine wO ?_|refine wP ?_|refine wQ ?_|refine wR ?_|refine wS ?_|refine wT ?_|refine wU ?_|refine wV ?_|refine wW ?_|refine wX ?_)
      refine Ops.rdS (q - 1) h rfl rfl rfl (by omega) (by omega) (by kernel_rfl) (by kernel_rfl) fun pz u2 ok2 cu2 => ?_
      refine Ops.callVB rfl (heq _ _ _ _ _ ok1 ok2) (fun hb => ?_) (fun hb => ?_)
      · have hb := of_dec_t hb
        have hkeep : compactL (d.toList.take q) = d.toList.take q := compactL_id q (by omega) hne
        have hq1' : compactL (d.toList.take (q + 1)) = d.toList.take q := by
          rw [take_snoc (arr_get! (by omega)), compactL_snoc _ d[q - 1]! _ ?_, if_pos hb, hkeep]
          obtain ⟨y, rfl⟩ : ∃ y, q = y + 1 := ⟨q - 1, by omega⟩
          exact take_last (arr_get! (by omega))
        repeat' (first|refine wA ?_|refine wB ?_|refine wH ?_|refine wI ?_|refine wJ ?_|refine wC ?_|refine wD ?_|refine wE ?_|refine wF ?_|refine wG ?_|refine wK ?_|refine wL ?_|refine wM ?_|refine wN ?_|refine wO ?_|refine wP ?_|refine wQ ?_|refine wR ?_|refine wS ?_|refine wT ?_|refine wU ?_|refine wV ?_|refine wW ?_|refine wX ?_)
        refine Ops.subS q h rfl rfl rfl rfl (by omega) (by kernel_rfl) fun s2 hs2 => ?_
        repeat' (first|refine wA ?_|refine wB ?_|refine wH ?_|refine wI ?_|refine wJ ?_|refine wC ?_|refine wD ?_|refine wE ?_|refine wF ?_|refine wG ?_|refine wK ?_|refine wL ?_|refine wM ?_|refine wN ?_|refine wO ?_|refine wP ?_|refine wQ ?_|refine wR ?_|refine wS ?_|refine wT ?_|refine wU ?_|refine wV ?_|refine wW ?_|refine wX ?_)
        refine Run.joinB (β := Nat × Hp × Array LF) (fun y => up (up jk 0 v) 5 (.int .i64 (y.1 : Int))) (fun y => y.2.1) (fun y => y.1 < d.size ∧ SR (elF 3) 24 k r y.2.1 v y.2.2 ∧ y.2.2.size = d.size ∧ Tr r H y.2.1 ∧ y.2.2.toList.take y.1 = compactL d.toList) ?_ ?_
        · refine Run.loopW (fun (x : Nat × Nat × Hp × Array LF) => d.size - x.2.1) (fun x => up (up (up (up (up jk 0 v) 1 (.func (.func g) #[] #[])) 5 (.int .i64 (x.1 : Int))) 6 s2) 7 (.int .i64 (x.2.1 : Int))) (fun x => x.2.2.1)
            (fun x => 0 < x.2.1 ∧ q + x.2.1 ≤ d.size ∧ x.1 + 1 ≤ q + x.2.1 ∧ SR (elF 3) 24 k r x.2.2.1 v x.2.2.2 ∧ x.2.2.2.size = d.size ∧ Tr r H x.2.2.1 ∧ x.2.2.2.toList.take x.1 = compactL (d.toList.take (q + x.2.1)) ∧ ∀ i, q + x.2.1 ≤ i + 1 → i < d.size → x.2.2.2[i]! = d[i]!) (q, 1, H, d) rfl (by repeat (first | exact Wk.jk | refine Wk.up rfl ?_))
            ⟨by dsimp only; omega, by dsimp only; omega, by dsimp only; omega, h, rfl, Tr.refl, hq1'.symm, fun i _ _ => rfl⟩ ?_
          rintro ⟨w, x2, H1, d1⟩ ⟨hx0, hx1, hw, h1, sz1, t1, hk1, hsame⟩
          dsimp only at hx0 hx1 hw h1 sz1 t1 hk1 hsame
          dsimp only
          have hs2' : SubS v s2 q d1.size := by rw [sz1]; exact hs2
          have sub := h1.sub rfl hs2' (by omega)
          have hsl2 : (d1.toList.drop q).length = d.size - q := by rw [List.length_drop]; simp [sz1]
          repeat' (first|refine wA ?_|refine wB ?_|refine wH ?_|refine wI ?_|refine wJ ?_|refine wC ?_|refine wD ?_|refine wE ?_|refine wF ?_|refine wG ?_|refine wK ?_|refine wL ?_|refine wM ?_|refine wN ?_|refine wO ?_|refine wP ?_|refine wQ ?_|refine wR ?_|refine wS ?_|refine wT ?_|refine wU ?_|refine wV ?_|refine wW ?_|refine wX ?_)
          rw [hsl2]
          refine Ops.cmp rfl rfl rfl (fun hc3 => ?_) (fun hc3 => ?_)
          · have rd : ∀ j, q + j < d.size → ∀ a, (d1.toList.drop q)[j]? = some a → a = d1[q + j]! := fun j hj a ha => by
              rw [List.getElem?_drop, arr_get! (by omega)] at ha
              exact (Option.some.inj ha).symm
            repeat' (first|refine wA ?_|refine wB ?_|refine wH ?_|refine wI ?_|refine wJ ?_|refine wC ?_|refine wD ?_|refine wE ?_|refine wF ?_|refine wG ?_|refine wK ?_|refine wL ?_|refine wM ?_|refine wN ?_|refine wO ?_|refine wP ?_|refine wQ ?_|refine wR ?_|refine wS ?_|refine wT ?_|refine wU ?_|refine wV ?_|refine wW ?_|refine wX ?_)
            refine Run.draw [0, 1, 2, 3, 4, 5, 6, 7, 8, 9, 10, 11] Try.checked.mixed (by kernel_rfl) ?_
            repeat' (first|refine wA ?_|refine wB ?_|refine wH ?_|refine wI ?_|refine wJ ?_|refine wC ?_|refine wD ?_|refine wE ?_|refine wF ?_|refine wG ?_|refine wK ?_|refine wL ?_|refine wM ?_|refine wN ?_|refine wO ?_|refine wP ?_|refine wQ ?_|refine wR ?_|refine wS ?_|refine wT ?_|refine wU ?_|refine wV ?_|refine wW ?_|refine wX ?_)
            refine Ops.idx sub rfl rfl (by omega) (by omega) (by kernel_rfl) (by kernel_rfl) fun pz u3 a3 ha3 ok3 => ?_
            repeat' (first|refine wA ?_|refine wB ?_|refine wH ?_|refine wI ?_|refine wJ ?_|refine wC ?_|refine wD ?_|refine wE ?_|refine wF ?_|refine wG ?_|refine wK ?_|refine wL ?_|refine wM ?_|refine wN ?_|refine wO ?_|refine wP ?_|refine wQ ?_|refine wR ?_|refine wS ?_|refine wT ?_|refine wU ?_|refine wV ?_|refine wW ?_|refine wX ?_)
            refine Ops.idx sub rfl rfl (by omega) (by omega) (by kernel_rfl) (by kernel_rfl) fun pz u4 a4 ha4 ok4 => ?_
            have e3 : a3 = d[q + x2]! := (rd x2 (by omega) a3 (by rw [← ha3]; congr 1)).trans (hsame _ (by omega) (by omega))
            have e4 : a4 = d[q + x2 - 1]! := by
              have h5 := rd (x2 - 1) (by omega) a4 (by rw [← ha4]; congr 1; omega)
              rw [h5, show q + (x2 - 1) = q + x2 - 1 by omega]
              exact hsame _ (by omega) (by omega)
            have hsn : compactL (d.toList.take (q + x2 + 1)) = if a3.1 = a4.1 then compactL (d.toList.take (q + x2)) else compactL (d.toList.take (q + x2)) ++ [a3] := by
              rw [take_snoc (arr_get! (by omega)), compactL_snoc _ d[q + x2 - 1]! _ ?_, e3, e4]
              obtain ⟨y, hy⟩ : ∃ y, q + x2 = y + 1 := ⟨q + x2 - 1, by omega⟩
              rw [hy]
              exact take_last (arr_get! (by omega))
            refine Ops.callVB rfl (heq _ _ _ _ _ ok3 ok4) (fun hb2 => ?_) (fun hb2 => ?_)
            · rw [if_pos (of_dec_t hb2)] at hsn
              repeat' (first|refine wA ?_|refine wB ?_|refine wH ?_|refine wI ?_|refine wJ ?_|refine wC ?_|refine wD ?_|refine wE ?_|refine wF ?_|refine wG ?_|refine wK ?_|refine wL ?_|refine wM ?_|refine wN ?_|refine wO ?_|refine wP ?_|refine wQ ?_|refine wR ?_|refine wS ?_|refine wT ?_|refine wU ?_|refine wV ?_|refine wW ?_|refine wX ?_)
              refine ⟨(w, x2 + 1, H1, d1), by dsimp only; omega, rfl, rfl, by dsimp only; exact (by repeat (first | exact Wk.jk | refine Wk.up rfl ?_)), ?_⟩
              refine ⟨by dsimp only; omega, by dsimp only; omega, by dsimp only; omega, h1, sz1, t1, ?_, fun i hi1 hi2 => hsame i (by dsimp only at hi1; omega) hi2⟩
              dsimp only
              rw [hk1, ← hsn, Nat.add_assoc]
            · rw [if_neg (of_dec_f hb2)] at hsn
              repeat' (first|refine wA ?_|refine wB ?_|refine wH ?_|refine wI ?_|refine wJ ?_|refine wC ?_|refine wD ?_|refine wE ?_|refine wF ?_|refine wG ?_|refine wK ?_|refine wL ?_|refine wM ?_|refine wN ?_|refine wO ?_|refine wP ?_|refine wQ ?_|refine wR ?_|refine wS ?_|refine wT ?_|refine wU ?_|refine wV ?_|refine wW ?_|refine wX ?_)
              refine Ops.idx sub rfl rfl (by omega) (by omega) (by kernel_rfl) (by kernel_rfl) fun pz u5 a5 ha5 ok5 => ?_
              have e5 : a5 = a3 := by rw [ha3] at ha5; exact (Option.some.inj ha5).symm
              subst e5
              have cu5 : cellsOf u5 = [u5] := by
                have := (cF cI 3).one ok5
                simp only [List.all_cons, List.all_nil, Bool.and_true] at this
                cases u5 <;> first | rfl | (simp [Value.one] at this; done)
              refine Ops.putS w h1 rfl rfl rfl rfl (by omega) rfl ok5 cu5 (by simp) (h1.el a5 ?_) (by kernel_rfl) (by kernel_rfl) fun pz H2 h2 m2 => ?_
              · have h6 := rd x2 (by omega) a5 (by rw [← ha3]; congr 1)
                rw [h6]; exact arr_mem (by omega)
              repeat' (first|refine wA ?_|refine wB ?_|refine wH ?_|refine wI ?_|refine wJ ?_|refine wC ?_|refine wD ?_|refine wE ?_|refine wF ?_|refine wG ?_|refine wK ?_|refine wL ?_|refine wM ?_|refine wN ?_|refine wO ?_|refine wP ?_|refine wQ ?_|refine wR ?_|refine wS ?_|refine wT ?_|refine wU ?_|refine wV ?_|refine wW ?_|refine wX ?_)
              refine ⟨(w + 1, x2 + 1, H2, d1.setIfInBounds w a5), by dsimp only; omega, rfl, rfl, by dsimp only; exact (by repeat (first | exact Wk.jk | refine Wk.up rfl ?_)), ?_⟩
              refine ⟨by dsimp only; omega, by dsimp only; omega, by dsimp only; omega, h2, by dsimp only; rw [Array.size_setIfInBounds]; exact sz1, t1.trans (Tr.of_mod m2), ?_, fun i hi1 hi2 => ?_⟩
              · dsimp only
                rw [Array.toList_setIfInBounds, set_take (by simp; omega), hk1, ← Nat.add_assoc, hsn]
              · dsimp only at hi1 ⊢
                rw [set_other! (by omega)]
                exact hsame i (by omega) hi2
          · repeat' (first|refine wA ?_|refine wB ?_|refine wH ?_|refine wI ?_|refine wJ ?_|refine wC ?_|refine wD ?_|refine wE ?_|refine wF ?_|refine wG ?_|refine wK ?_|refine wL ?_|refine wM ?_|refine wN ?_|refine wO ?_|refine wP ?_|refine wQ ?_|refine wR ?_|refine wS ?_|refine wT ?_|refine wU ?_|refine wV ?_|refine wW ?_|refine wX ?_)
            refine ⟨(w, H1, d1), rfl, rfl, by dsimp only; exact (by repeat (first | exact Wk.jk | refine Wk.up rfl ?_)), ?_⟩
            refine ⟨by dsimp only; omega, h1, sz1, t1, ?_⟩
            dsimp only
            rw [hk1, take_end (by omega)]
        · rintro ⟨w, H1, d1⟩ ⟨hw, h1, sz1, t1, hk1⟩
          dsimp only at hw h1 sz1 t1 hk1
          dsimp only
          repeat' (first|refine wA ?_|refine wB ?_|refine wH ?_|refine wI ?_|refine wJ ?_|refine wC ?_|refine wD ?_|refine wE ?_|refine wF ?_|refine wG ?_|refine wK ?_|refine wL ?_|refine wM ?_|refine wN ?_|refine wO ?_|refine wP ?_|refine wQ ?_|refine wR ?_|refine wS ?_|refine wT ?_|refine wU ?_|refine wV ?_|refine wW ?_|refine wX ?_)
          refine Ops.cutS w h1 rfl rfl rfl rfl (by omega) (by kernel_rfl) rfl (fun z0 hz0 => by have h5 : (Try.prog.info? (Try.prog.elem 28)).bind (·.zero) = some (.slice none 0 0) := (by kernel_rfl); rw [h5] at hz0; cases hz0; exact ⟨rfl, rfl⟩) fun u2 H2 cu2 m2 => ?_
          rw [hk1] at cu2
          have hlen : (compactL d.toList).length = w := by rw [← hk1, List.length_take]; simp [sz1]; omega
          repeat' (first|refine wA ?_|refine wB ?_|refine wH ?_|refine wI ?_|refine wJ ?_|refine wC ?_|refine wD ?_|refine wE ?_|refine wF ?_|refine wG ?_|refine wK ?_|refine wL ?_|refine wM ?_|refine wN ?_|refine wO ?_|refine wP ?_|refine wQ ?_|refine wR ?_|refine wS ?_|refine wT ?_|refine wU ?_|refine wV ?_|refine wW ?_|refine wX ?_)
          refine Ops.keepS cu2 rfl rfl rfl (by rw [hlen]) (by kernel_rfl) fun u3 h3 => ?_
          repeat' (first|refine wA ?_|refine wB ?_|refine wH ?_|refine wI ?_|refine wJ ?_|refine wC ?_|refine wD ?_|refine wE ?_|refine wF ?_|refine wG ?_|refine wK ?_|refine wL ?_|refine wM ?_|refine wN ?_|refine wO ?_|refine wP ?_|refine wQ ?_|refine wR ?_|refine wS ?_|refine wT ?_|refine wU ?_|refine wV ?_|refine wW ?_|refine wX ?_)
          refine Run.ret ⟨.inl rfl, ResK.tmp rfl (by conv => lhs; whnf) (ResK.nil ?_)⟩
          exact ⟨h3, t1.trans (Tr.of_mod m2)⟩
      · have hb := of_dec_f hb
        repeat' (first|refine wA ?_|refine wB ?_|refine wH ?_|refine wI ?_|refine wJ ?_|refine wC ?_|refine wD ?_|refine wE ?_|refine wF ?_|refine wG ?_|refine wK ?_|refine wL ?_|refine wM ?_|refine wN ?_|refine wO ?_|refine wP ?_|refine wQ ?_|refine wR ?_|refine wS ?_|refine wT ?_|refine wU ?_|refine wV ?_|refine wW ?_|refine wX ?_)
        refine ⟨q + 1, by dsimp only; omega, rfl, rfl, by dsimp only; exact (by repeat (first | exact Wk.jk | refine Wk.up rfl ?_)), ?_⟩
        refine ⟨by omega, by omega, fun i a b hi ha hb2 => ?_⟩
        by_cases e : i + 1 = q
        · subst e
          rw [arr_get! (by omega)] at ha hb2
          cases ha; cases hb2
          exact hb
        · exact hne i a b (by omega) ha hb2
    · repeat' (first|refine wA ?_|refine wB ?_|refine wH ?_|refine wI ?_|refine wJ ?_|refine wC ?_|refine wD ?_|refine wE ?_|refine wF ?_|refine wG ?_|refine wK ?_|refine wL ?_|refine wM ?_|refine wN ?_|refine wO ?_|refine wP ?_|refine wQ ?_|refine wR ?_|refine wS ?_|refine wT ?_|refine wU ?_|refine wV ?_|refine wW ?_|refine wX ?_)
      refine Run.ret ⟨.inl rfl, ResK.tmp rfl (by conv => lhs; whnf) (ResK.nil ?_)⟩
      have hqd : q = d.size := by omega
      have e : compactL d.toList = d.toList := by
        have := compactL_id (l := d.toList) q (by omega) hne
        rwa [take_end (by omega)] at this
      rw [e]
      exact ⟨(by simpa using h : SR (elF 3) 24 k r H v d.toList.toArray), Tr.refl⟩

end
end Go.Proofs.Ytefmjpbmdoebaaa
