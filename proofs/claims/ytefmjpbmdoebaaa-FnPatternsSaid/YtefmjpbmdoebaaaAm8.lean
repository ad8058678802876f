/- The abstract machine, part 8: literals, calls, how a function is entered and left. -/
import Derived.Test.YtefmjpbmdoebaaaAm7
import Derived.Great.FillDense
set_option linter.unusedVariables false
set_option linter.unusedSimpArgs false
namespace Go.Proofs.Ytefmjpbmdoebaaa
open Go Go.RowKit

/-- Two lists of the same length, related element by element. -/
def LR (β : Bm) (cs us : List Value) : Prop := cs.length = us.length ∧ ∀ (j : Nat) (v : Value), cs[j]? = some v → ∃ u, us[j]? = some u ∧ VR β v u

theorem LR.append {β : Bm} {a b c d : List Value} (h : LR β a b) (k : LR β c d) : LR β (a ++ c) (b ++ d) := by
  refine ⟨by rw [List.length_append, List.length_append, h.1, k.1], fun j v hj => ?_⟩
  rcases Nat.lt_or_ge j a.length with h1 | h1
  · rw [List.getElem?_append_left h1] at hj
    rw [List.getElem?_append_left (by rw [← h.1]; exact h1)]
    exact h.2 j v hj
  · rw [List.getElem?_append_right h1] at hj
    rw [List.getElem?_append_right (by rw [← h.1]; exact h1), ← h.1]
    exact k.2 _ v hj

theorem LR.splice {β : Bm} {cs us vs ws : List Value} {off : Nat} (h : LR β cs us) (k : LR β vs ws) (hf : off + vs.length ≤ cs.length) : LR β (splice cs off vs) (splice us off ws) :=
  ⟨by rw [splice_length hf, splice_length (by rw [← k.1, ← h.1]; exact hf), h.1], splice_rel h.2 k.1 k.2 hf (by rw [← h.1]; exact hf)⟩

theorem LR.cells {β : Bm} {v u : Value} (h : Value.known v = true) (hv : VR β v u) : LR β (cellsOf v) u.cells.toList := by
  obtain ⟨h1, h2⟩ := hv.cells h
  refine ⟨by simpa using h1, ?_⟩
  have := getD_rel (n := 0) h1 h2
  simpa using this

theorem LR.flat {β : Bm} : ∀ (vs us : List Value), LR β vs us → (∀ v ∈ vs, Value.known v = true) → LR β (vs.flatMap cellsOf) (us.flatMap fun v => v.cells.toList)
  | [], us, h, _ => by
    have : us = [] := List.eq_nil_of_length_eq_zero h.1.symm
    subst this
    exact ⟨rfl, fun j v hj => by simp at hj⟩
  | v :: vs, [], h, _ => by have := h.1; simp at this
  | v :: vs, u :: us, h, hk => by
    rw [List.flatMap_cons, List.flatMap_cons]
    obtain ⟨u', h1, h2⟩ := h.2 0 v rfl
    cases h1
    refine (LR.cells (hk v (by simp)) h2).append (LR.flat vs us ⟨by have := h.1; simpa using this, fun j x hj => ?_⟩ (fun x hx => hk x (by simp [hx])))
    have := h.2 (j + 1) x hj
    simpa using this

section
variable {P : Program} {o : Oper} {ρ : Operand → Value} {H H' : Hp} {r : Value}

/-- A slice literal, every element given. -/
theorem anew_lit {t e : TypeId} {len : Nat} {parts : Array (Nat × Operand)} {xs : List Operand} {i : TypeInfo} {z : Value} (ho : o.op = .buildSlice t len parts) (hp : parts.toList = (xs.zipIdx 0).map fun x => (x.2, x.1)) (hlen : len = xs.length)
    (ht : P.underlying t = some (.slice e)) (hi : P.info? e = some i) (hz : i.zero = some z) (h0 : 0 < i.size) (hl : 0 < len) (hsm : len * i.size ≤ 16777216)
    (hk : ∀ x ∈ xs, (cellsOf (ρ x)).length = i.size ∧ (cellsOf (ρ x)).all Value.one = true) :
    anew P o ρ ⟨e, i.size, (xs.map ρ).flatMap cellsOf⟩ (fun id => .slice (some ⟨id, 0, none⟩) len len) := by
    refine ⟨h0, ?_⟩
    intro β a w hxs
    have hop : ∀ x ∈ xs, x ∈ o.op.operands := by
      intro x hx
      rw [ho]
      simp only [Op.operands, List.mem_toArray, List.mem_map, hp]
      obtain ⟨j, hj, rfl⟩ := List.mem_iff_getElem.1 hx
      refine ⟨(j, xs[j]), ⟨(xs[j], j), ?_, rfl⟩, rfl⟩
      rw [List.mem_iff_getElem?]
      exact ⟨j, by simp [List.getElem?_zipIdx, hj]⟩
    have hlr : LR β (xs.map ρ) (xs.map a.eval) := by
      refine ⟨by simp, fun j v hj => ?_⟩
      rw [List.getElem?_map] at hj
      obtain ⟨x, hx, rfl⟩ := Option.map_eq_some_iff.1 hj
      exact ⟨a.eval x, by rw [List.getElem?_map, hx]; rfl, hxs x (hop x (List.mem_of_getElem? hx))⟩
    have hkn : ∀ v ∈ xs.map ρ, Value.known v = true := by
      intro v hv
      obtain ⟨x, hx, rfl⟩ := List.mem_map.1 hv
      exact one_known (hk x hx).2
    have hflat := LR.flat _ _ hlr hkn
    have hsz : ∀ v ∈ xs.map a.eval, v.cells.size = i.size := by
      intro v hv
      obtain ⟨x, hx, rfl⟩ := List.mem_map.1 hv
      obtain ⟨h1, _⟩ := (hxs x (hop x hx)).cells (one_known (hk x hx).2)
      rw [← h1]; exact (hk x hx).1
    have hfill := Great.fill_whole h0 (xs.map a.eval) ((Array.range (len * i.size)).map (z.cells[· % z.cells.size]!)) hsz (by simp [hlen])
    have hparts : (parts.map fun (i, x) => (i, a.eval x)).toList = ((xs.map a.eval).zipIdx 0).map fun x => (x.2, x.1) := by
      rw [Array.toList_map, hp, List.zipIdx_map, List.map_map, List.map_map]
      rfl
    rw [← hparts] at hfill
    have hrun := run_buildSlice (P := P) w t e len (parts.map fun (i, x) => (i, a.eval x)) _ i z ht hi hz (by omega) (by have := Nat.mul_pos hl h0; omega) hfill
    have h7 : ((xs.map a.eval).flatMap fun v => v.cells.toList).length = len * i.size := by
      have hgen : ∀ l : List Value, (∀ v ∈ l, v.cells.size = i.size) → (l.flatMap fun v => v.cells.toList).length = l.length * i.size := by
        intro l
        induction l with
        | nil => intro _; simp
        | cons v l ih =>
          intro h
          rw [List.flatMap_cons, List.length_append, ih (fun x hx => h x (by simp [hx])), List.length_cons, Nat.add_mul, Nat.one_mul]
          have := h v (by simp)
          simp only [Array.length_toList, this]; omega
      rw [hgen _ hsz, List.length_map, hlen]
    refine ⟨.slice (some ⟨w.heap.size, 0, none⟩) len len, _, w.heap.size, len * i.size, ((xs.map a.eval).flatMap fun v => v.cells.toList).toArray, ?_, grown_alloc _ _, Nat.le_refl _, alloc_at _ _, ?_, ?_, ?_, fun β' id h => .slice h (.inl rfl) (Nat.le_refl _) ?_ fun K sz h' => ?_⟩
    · simp [execOp, ho, hrun]
    · rw [List.size_toArray, h7]; exact Nat.le_refl _
    · show ((xs.map ρ).flatMap cellsOf).length ≤ _
      rw [hflat.1, h7]; exact Nat.le_refl _
    · intro j v hj
      obtain ⟨u, h5, h6⟩ := hflat.2 j v hj
      exact ⟨u, by simpa using h5, h6⟩
    · have : len ≤ len * i.size := Nat.le_mul_of_pos_right _ h0
      simp only [maxLen]; omega
    · cases h'
      show 0 + len * i.size ≤ _
      omega

/-- A slice literal without elements. -/
theorem anew_lit0 {t e : TypeId} {i : TypeInfo} {parts : Array (Nat × Operand)} (ho : o.op = .buildSlice t 0 parts) (hp : parts = #[]) (ht : P.underlying t = some (.slice e)) (hi : P.info? e = some i) (h0 : 0 < i.size) :
    anew P o ρ ⟨e, i.size, []⟩ (fun id => .slice (some ⟨id, 0, none⟩) 0 0) := by
    refine ⟨h0, ?_⟩
    intro β a w hxs
    subst hp
    refine ⟨.slice (some ⟨w.heap.size, 0, none⟩) 0 0, w.alloc (.cells #[] e), w.heap.size, 0, #[], ?_, grown_alloc _ _, Nat.le_refl _, alloc_at _ _, Nat.le_refl _, Nat.le_refl _, fun j v hj => by simp at hj, fun β' id h => .slice h (.inl rfl) (Nat.le_refl _) (by simp) fun K sz h' => by cases h'; simp⟩
    have hr0 : Array.map (fun x : Nat => (default : Value)) (Array.range 0) = #[] := by simp
    simp [execOp, ho, Instr.buildSlice, run_underlying ht, sizeOf, typeInfo, hi, Instr.fill, newRow, hr0]

/-- The cells of a struct literal. -/
def bld (pl : List (Nat × Nat)) : List Value → List (Nat × Value) → Option (List Value)
  | cs, [] => some cs
  | cs, (i, v) :: rest =>
    match pl[i]? with
    | none => none
    | some (off, size) => if (cellsOf v).length = size ∧ off + size ≤ cs.length then bld pl (splice cs off (cellsOf v)) rest else none

theorem fill_bld {β : Bm} {pl : List (Nat × Nat)} : ∀ (ps qs : List (Nat × Value)) (cs : List Value) (us : Array Value) (r : List Value), LR β cs us.toList → ps.length = qs.length →
    (∀ (j : Nat) (p : Nat × Value), ps[j]? = some p → ∃ q, qs[j]? = some q ∧ q.1 = p.1 ∧ VR β p.2 q.2 ∧ Value.known p.2 = true) → bld pl cs ps = some r → ∃ r', Instr.fill (pl.toArray[·]?) us qs = some r' ∧ LR β r r'.toList
  | [], [], cs, us, r, h, _, _, hb => by cases hb; exact ⟨us, rfl, h⟩
  | [], _ :: _, _, _, _, _, hl, _, _ => by simp at hl
  | _ :: _, [], _, _, _, _, hl, _, _ => by simp at hl
  | (i, v) :: ps, (i', u) :: qs, cs, us, r, h, hl, hp, hb => by
    obtain ⟨q, hq, h1, h2, h3⟩ := hp 0 (i, v) rfl
    cases hq
    simp only at h1 h2 h3
    subst h1
    unfold bld at hb
    cases hpl : pl[i']? with
    | none => rw [hpl] at hb; cases hb
    | some os =>
      obtain ⟨off, size⟩ := os
      rw [hpl] at hb
      simp only at hb
      split at hb
      · rename_i hfit
        have hc := LR.cells h3 h2
        have hcl : u.cells.size = size := by have := hc.1; simp at this; omega
        have hus : cs.length = us.size := by have := h.1; simpa using this
        obtain ⟨g1, g2⟩ := Great.foldl_set off u.cells.toList 0 us
        have hnew : ((u.cells.toList.zipIdx 0).foldl (fun cs (x : Value × Nat) => cs.setIfInBounds (off + x.2) x.1) us).toList = splice us.toList off u.cells.toList := by
          apply List.ext_getElem?
          intro k
          have := g2 k
          rw [splice_get (by simp; omega)]
          simp only [Nat.add_zero] at this
          rw [Array.getElem?_toList, this]
          by_cases hk : off ≤ k ∧ k < off + u.cells.toList.length
          · rw [if_pos hk, if_pos ⟨hk.1, hk.2, by have := hk.2; simp at this; omega⟩]
          · rw [if_neg hk, if_neg (fun h => hk ⟨h.1, h.2.1⟩)]
            simp
        have hlr : LR β (splice cs off (cellsOf v)) ((u.cells.toList.zipIdx 0).foldl (fun cs (x : Value × Nat) => cs.setIfInBounds (off + x.2) x.1) us).toList := by
          rw [hnew]; exact h.splice hc (by omega)
        obtain ⟨r', hr', hrl⟩ := fill_bld ps qs _ _ r hlr (by simpa using hl) (fun j p hj => by have := hp (j + 1) p hj; simpa using this) hb
        refine ⟨r', ?_, hrl⟩
        unfold Instr.fill
        have hpl' : pl.toArray[i']? = some (off, size) := by simpa using hpl
        simp only [hpl', hcl]
        rw [if_neg (by simp; omega)]
        rw [← hr']
        congr 1
        rw [← Array.foldl_toList, Array.toList_zipIdx]
      · cases hb

theorem known_lr {l : List Value} (h : l.all Value.still = true) (β : Bm) : LR β l l := ⟨rfl, fun j v hj => ⟨v, hj, known_list h j β v hj⟩⟩

/-- A struct literal. -/
theorem aev_build {t : TypeId} {parts : Array (Nat × Operand)} {fs : Array Field} {it : TypeInfo} {z : Value} {pl : List (Nat × Nat)} {cs : List Value} (ho : o.op = .build t parts) (ht : P.underlying t = some (.struct fs)) (hi : P.info? t = some it) (hz : it.zero = some z)
    (hpl : fs.toList.mapM (fun f => (P.info? f.type).map fun i => (f.offset, i.size)) = some pl) (hst : (cellsOf z).all Value.still = true) (hk : ∀ p ∈ parts.toList, Value.known (ρ p.2) = true)
    (hb : bld pl (cellsOf z) (parts.toList.map fun p => (p.1, ρ p.2)) = some cs) : aev P o ρ H (.agg cs.toArray) H :=
  aev_pure fun β a hxs => by
    have hop : ∀ p ∈ parts.toList, p.2 ∈ o.op.operands := by
      intro p hp
      rw [ho]
      simp only [Op.operands, List.mem_toArray, List.mem_map]
      exact ⟨p, hp, rfl⟩
    have h0 : LR β (cellsOf z) z.cells.toList := by rw [cells_eq]; exact known_lr hst β
    obtain ⟨r', h1, h2⟩ := fill_bld (parts.toList.map fun p => (p.1, ρ p.2)) (parts.map fun (i, x) => (i, a.eval x)).toList (cellsOf z) z.cells cs h0 (by simp) (fun j p hj => by
      rw [List.getElem?_map] at hj
      obtain ⟨x, hx, rfl⟩ := Option.map_eq_some_iff.1 hj
      have hm := List.mem_of_getElem? hx
      refine ⟨(x.1, a.eval x.2), ?_, rfl, hxs _ (hop x hm), hk x hm⟩
      rw [Array.toList_map, List.getElem?_map, hx]
      rfl) hb
    have hbt : P.built t (parts.map fun (i, x) => (i, a.eval x)).toList = some r' := by
      unfold Program.built
      simp only [hi, ht, hz, hpl]
      exact h1
    refine ⟨.agg r', .agg (by simpa using h2.1) fun j hj => ?_, fun w => by simp [execOp, ho, run_build w t _ _ hbt]⟩
    have hj' : j < cs.length := by simpa using hj
    obtain ⟨u, h3, h4⟩ := h2.2 j cs[j] (List.getElem?_eq_getElem hj')
    have e1 : r'.getD j junk = u := arr_at (by simpa using h3)
    have e2 : cs.toArray.getD j junk = cs[j] := arr_at (by simp [hj'])
    rw [e1, e2]; exact h4

/-! ### calls -/
/-- What a call of function f comes to: result r, memory H'. -/
def acall (P : Program) (f : FuncId) (args : List Value) (H : Hp) (r : Value) (H' : Hp) : Prop :=
  (∃ fn, P.funcs[f]? = some fn ∧ fn.body.isNone = false ∧ (fn.name == "runtime.NumGoroutine") = false) ∧
  ∀ (B : Nat) (β : Bm) (w : World) (vargs : Array Value), LR β args vargs.toList → HR B β H w →
    Calls P f vargs w fun e w' => ∃ β' v, e = .returned v ∧ VR β' r v ∧ HR B β' H' w' ∧ Fr B β H w β' H' w'

theorem run_callFunc {f : FuncId} {fn : Func} (hf : P.funcs[f]? = some fn) (hb : fn.body.isNone = false) (hn : (fn.name == "runtime.NumGoroutine") = false) (args : Array Value) (w : World) : (callFunc f args).run P w = .ok (.enter f args) w := by
  have h1 : fn.name ≠ "runtime.NumGoroutine" := by simpa using hn
  cases hbody : fn.body with
  | none => rw [hbody] at hb; cases hb
  | some c => simp [callFunc, hf, hbody, h1]

/-- A call of a function value (a function's name, a closure). -/
theorem aev_call {f : Operand} {xs : Array Operand} {ts : Array TypeId} {n : FuncId} {first caps : Array Value} (ho : o.op = .call { callee := .value f, args := xs, argTypes := ts }) (hf : ρ f = .func (.func n) first caps)
    (h : acall P n (first.toList ++ (xs.toList.map ρ) ++ caps.toList) H r H') : aev P o ρ H r H' := by
  intro B β a w hxs hr next Q hnx
  obtain ⟨⟨fn, h1, h2, h3⟩, hc⟩ := h
  have g1 := hxs f (by rw [ho]; simp [Op.operands, Call.operands])
  rw [hf] at g1
  generalize he : a.eval f = u at g1
  cases g1 with
  | func g hs hv hs' hv' =>
    rename_i ys ds
    have hrun : (execOp a.eval o).run P w = .ok (.enter n (ys ++ xs.map a.eval ++ ds)) w := by
      simp [execOp, ho, resolve, he, Deferred.ofValue, invoke, run_callFunc h1 h2 h3]
    unfold Oper.wp
    rw [hrun]
    simp only [Oper.upon]
    have lr : ∀ (as bs : Array Value), as.size = bs.size → (∀ i, i < as.size → VR β (as.getD i junk) (bs.getD i junk)) → LR β as.toList bs.toList := by
      intro as bs hs hv
      refine ⟨by simpa using hs, fun j v hj => ?_⟩
      have hj' : as[j]? = some v := by simpa using hj
      have hlt := (Array.getElem?_eq_some_iff.1 hj').1
      have := hv j hlt
      rw [arr_at hj'] at this
      exact ⟨bs.getD j junk, by rw [Array.getElem?_toList]; exact arr_get (by omega), this⟩
    have hlr : LR β (first.toList ++ (xs.toList.map ρ) ++ caps.toList) (ys ++ xs.map a.eval ++ ds).toList := by
      rw [Array.toList_append, Array.toList_append, Array.toList_map]
      refine ((lr first ys hs hv).append ⟨by simp, fun j v hj => ?_⟩).append (lr caps ds hs' hv')
      rw [List.getElem?_map] at hj
      obtain ⟨x, hx, rfl⟩ := Option.map_eq_some_iff.1 hj
      exact ⟨a.eval x, by rw [List.getElem?_map, hx]; rfl, hxs x (by rw [ho]; simp [Op.operands, Call.operands]; exact .inr (by have := List.mem_of_getElem? hx; simpa using this))⟩
    refine (hc B β w _ hlr hr).mono ?_
    rintro e w' ⟨β', v, rfl, k1, k2, k3⟩
    exact hnx β' v w' k1 k2 k3

/-! ### a function's body -/
def St.init (n : Nat) (args : List Value) (H : Hp) : St := ⟨n, fun j => args.getD j undef, H⟩

/-- What one of the results is: a slot, or what lies at its address. -/
inductive ARes (P : Program) (S : St) : ResultVar → Value → Prop
  | tmp {t : Nat} (h : t < S.n) : ARes P S (.tmp t) (S.T t)
  | cell {a : Nat} {t : TypeId} {d : TypeDesc} {id off : Nat} {ob : Ob} {v : Value} (h : a < S.n) (hp : S.T a = .pointer (some ⟨id, off, none⟩)) (ht : P.underlying t = some d) (hd : aggB d = false) (hg : S.H.get id = some ob) (hv : ob.cs[off]? = some v) : ARes P S (.cell a t) v
  | cells {a : Nat} {t : TypeId} {d : TypeDesc} {i : TypeInfo} {id off : Nat} {ob : Ob} {cs : List Value} (h : a < S.n) (hp : S.T a = .pointer (some ⟨id, off, none⟩)) (ht : P.underlying t = some d) (hd : aggB d = true) (hi : P.info? t = some i) (hn : i.size = cs.length)
      (hg : S.H.get id = some ob) (hv : ∀ (j : Nat) (v : Value), cs[j]? = some v → ob.cs[off + j]? = some v) : ARes P S (.cell a t) (.agg cs.toArray)

/-- A result's value, as the model reads it. -/
def resOne (tmps : Array Value) : ResultVar → Go.Sem Value
  | .tmp t => pure (tmps.getD t undef)
  | .cell a t => do loadVar t (← asAddr (tmps.getD a undef))

theorem ARes.sound {S : St} {rv : ResultVar} {v : Value} (h : ARes P S rv v) {B : Nat} {β : Bm} {a : Act} {w : World} (ht : TR β S a) (hr : HR B β S.H w) :
    ∃ u, VR β v u ∧ (resOne a.tmps rv).run P w = .ok u w := by
  cases h with
  | tmp h => exact ⟨_, ht.2 _ h, rfl⟩
  | cell h hp hty hd hg hv =>
    rename_i x t d id off ob
    have g1 := ht.2 x h
    rw [hp] at g1
    show ∃ u, VR β v u ∧ ((do loadVar t (← asAddr (a.tmps.getD x undef))) : Go.Sem Value).run P w = .ok u w
    generalize a.tmps.getD x undef = u at g1 ⊢
    cases g1 with
    | ptr hb =>
      obtain ⟨u, h2, h3⟩ := hr.cell id ob _ _ hg hb off v hv
      exact ⟨u, h3, by simp [asAddr, loadVar, run_isAgg hty, hd, h2]⟩
  | cells h hp hty hd hi hn hg hv =>
    rename_i x t d i id off ob cs
    have g1 := ht.2 x h
    rw [hp] at g1
    show ∃ u, VR β (.agg cs.toArray) u ∧ ((do loadVar t (← asAddr (a.tmps.getD x undef))) : Go.Sem Value).run P w = .ok u w
    generalize a.tmps.getD x undef = u at g1 ⊢
    cases g1 with
    | ptr hb =>
      rename_i b k
      obtain ⟨us, u1, u2, u3⟩ := hr.read hg hb cs hv
      have hrun := run_loadCells_list (P := P) (w := w) ⟨b, off, none⟩ us u2
      refine ⟨.agg us.toArray, .agg (by simp [u1]) fun j hj => ?_, ?_⟩
      · have hj' : j < cs.length := by simpa using hj
        obtain ⟨u, h3, h4⟩ := u3 j cs[j] (List.getElem?_eq_getElem hj')
        have e1 : us.toArray.getD j junk = u := arr_at (by simpa using h3)
        have e2 : cs.toArray.getD j junk = cs[j] := arr_at (by simp [hj'])
        rw [e1, e2]; exact h4
      · rw [u1] at hrun
        simp [asAddr, loadVar, run_isAgg hty, hd, sizeOf, typeInfo, hi, hn, hrun]

inductive AllRes (P : Program) (S : St) : List ResultVar → List Value → Prop
  | nil : AllRes P S [] []
  | cons {rv : ResultVar} {rvs : List ResultVar} {v : Value} {vs : List Value} (h : ARes P S rv v) (k : AllRes P S rvs vs) : AllRes P S (rv :: rvs) (v :: vs)

/-- The results together. -/
def resVal : List Value → Value
  | [v] => v
  | vs => .tuple vs.toArray

theorem AllRes.sound {S : St} {rvs : List ResultVar} {vs : List Value} (h : AllRes P S rvs vs) {B : Nat} {β : Bm} {a : Act} {w : World} (ht : TR β S a) (hr : HR B β S.H w) :
    ∃ us, LR β vs us ∧ (rvs.mapM (resOne a.tmps)).run P w = .ok us w := by
  induction h with
  | nil => exact ⟨[], ⟨rfl, fun j v hj => by simp at hj⟩, rfl⟩
  | cons h k ih =>
    obtain ⟨u, h1, h2⟩ := h.sound ht hr
    obtain ⟨us, h3, h4⟩ := ih
    refine ⟨u :: us, ⟨by simp [h3.1], fun j v hj => ?_⟩, ?_⟩
    · cases j with
      | zero => simp at hj; subst hj; exact ⟨u, rfl, h1⟩
      | succ j => exact h3.2 j v (by simpa using hj)
    · simp only [List.mapM_cons, Sem.run_bind, h2, Result.andThen_ok, h4]
      rfl

theorem LR.resVal {β : Bm} {vs us : List Value} (h : LR β vs us) : VR β (resVal vs) (if hh : us.toArray.size = 1 then us.toArray[0] else Value.tuple us.toArray) := by
  have tup : ∀ vs us : List Value, LR β vs us → VR β (.tuple vs.toArray) (.tuple us.toArray) := by
    intro vs us h
    refine .tuple (by simpa using h.1) fun j hj => ?_
    have hj' : j < vs.length := by simpa using hj
    obtain ⟨u, h3, h4⟩ := h.2 j vs[j] (List.getElem?_eq_getElem hj')
    have e1 : us.toArray.getD j junk = u := arr_at (by simpa using h3)
    have e2 : vs.toArray.getD j junk = vs[j] := arr_at (by simp [hj'])
    rw [e1, e2]; exact h4
  match vs, us, h with
  | [], us, h =>
    have : us = [] := List.eq_nil_of_length_eq_zero h.1.symm
    subst this
    exact tup _ _ h
  | [v], us, h =>
    obtain ⟨u, h1, h2⟩ := h.2 0 v rfl
    match us, h.1, h1 with
    | [u'], _, h1 => cases h1; exact h2
  | v :: v' :: vs, us, h =>
    have hl := h.1
    rw [dif_neg (by simp at hl ⊢; omega)]
    exact tup _ _ h

theorem acall_enter {f : FuncId} {fn : Func} {c : Code} {args : List Value} {e : Exit} {S' : St} {vs : List Value} (hf : P.funcs[f]? = some fn) (hb : fn.body = some c) (hn : (fn.name == "runtime.NumGoroutine") = false) (hl : args.length ≤ fn.ntmps)
    (h : Sem P c (St.init fn.ntmps args H) e S') (he : e = .ret ∨ e = .normal) (hr : AllRes P S' fn.results.toList vs) : acall P f args H (resVal vs) S'.H := by
  refine ⟨⟨fn, hf, by rw [hb]; rfl, hn⟩, fun B β w vargs hlr hrw => ?_⟩
  have hsz : vargs.size = args.length := by have := hlr.1; simpa using this.symm
  refine calls_of_wp hf hb ?_
  refine wp_mono (h B β { tmps := vargs ++ Array.replicate (fn.ntmps - vargs.size) undef, defers := [] } w ⟨?_, ?_⟩ hrw rfl) ?_
  · show (vargs ++ Array.replicate (fn.ntmps - vargs.size) undef).size = fn.ntmps
    simp; omega
  · intro i hi
    have hi' : i < fn.ntmps := hi
    show VR β (args.getD i undef) ((vargs ++ Array.replicate (fn.ntmps - vargs.size) undef).getD i undef)
    by_cases h1 : i < args.length
    · obtain ⟨u, h2, h3⟩ := hlr.2 i args[i] (List.getElem?_eq_getElem h1)
      have e1 : vargs[i]? = some u := by simpa using h2
      have e2 : (vargs ++ Array.replicate (fn.ntmps - vargs.size) undef)[i]? = some u := by rw [Array.getElem?_append_left (by omega)]; exact e1
      rw [Array.getD_eq_getD_getElem?, e2, List.getD_eq_getElem?_getD, List.getElem?_eq_getElem h1]
      exact h3
    · rw [List.getD_eq_getElem?_getD, List.getElem?_eq_none (by omega)]
      have e2 : (vargs ++ Array.replicate (fn.ntmps - vargs.size) undef)[i]? = some undef := by
        rw [Array.getElem?_append_right (by omega), Array.getElem?_replicate, if_pos (by omega)]
      rw [Array.getD_eq_getD_getElem?, e2]
      exact VR.undef
  · rintro e' a' w' ⟨rfl, hd, β', ht, hr', hf'⟩
    obtain ⟨us, h1, h2⟩ := hr.sound ht hr'
    have hres : (results fn a'.tmps).run P w' = .ok (if hh : us.toArray.size = 1 then us.toArray[0] else Value.tuple us.toArray) w' := by
      have e0 : results fn a'.tmps = (do let vs ← fn.results.mapM (resOne a'.tmps); pure (if h : vs.size = 1 then vs[0] else .tuple vs)) := rfl
      rw [e0, Array.mapM_eq_mapM_toList]
      simp [h2]
    rcases he with rfl | rfl
    · exact ⟨hd, _, hres, β', _, rfl, h1.resVal, hr', hf'⟩
    · exact ⟨hd, _, hres, β', _, rfl, h1.resVal, hr', hf'⟩

end
end Go.Proofs.Ytefmjpbmdoebaaa
