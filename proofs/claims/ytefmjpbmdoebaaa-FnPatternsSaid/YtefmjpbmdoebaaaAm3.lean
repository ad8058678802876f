/- The abstract machine, part 3: what the operations come to. -/
import Derived.Test.YtefmjpbmdoebaaaAm2
import Derived.Laws.Cells
import Derived.Laws.IdiomCopy
import Derived.Laws.Tables
import Derived.Laws.Slices
import Derived.Laws.Strings
import Derived.Great.BuildSlice
set_option linter.unusedVariables false
set_option linter.unusedSimpArgs false
namespace Go.Proofs.Ytefmjpbmdoebaaa
open Go Go.RowKit

section
variable {P : Program} {o : Oper} {ρ : Operand → Value} {H H' : Hp} {r : Value}

theorem aev_intro (h : ∀ (B : Nat) (β : Bm) (a : Act) (w : World), (∀ x ∈ o.op.operands, VR β (ρ x) (a.eval x)) → HR B β H w →
    ∃ β' u w', (execOp a.eval o).run P w = .ok (.value u) w' ∧ VR β' r u ∧ HR B β' H' w' ∧ Fr B β H w β' H' w') : aev P o ρ H r H' := by
  intro B β a w hx hr next Q hn
  obtain ⟨β', u, w', h1, h2, h3, h4⟩ := h B β a w hx hr
  unfold Oper.wp
  rw [h1]
  exact hn β' u w' h2 h3 h4

theorem aev_pure (h : ∀ (β : Bm) (a : Act), (∀ x ∈ o.op.operands, VR β (ρ x) (a.eval x)) → ∃ u, VR β r u ∧ ∀ w, (execOp a.eval o).run P w = .ok (.value u) w) : aev P o ρ H r H :=
  aev_intro fun B β a w hx hr => let ⟨u, h1, h2⟩ := h β a hx; ⟨β, u, w, h2 w, h1, hr, Fr.refl hr⟩

theorem aev_move {x : Operand} (ho : o.op = .move x) : aev P o ρ H (ρ x) H :=
  aev_pure fun β a hx => ⟨a.eval x, hx x (by rw [ho]; simp [Op.operands]), fun w => by simp [execOp, ho]⟩

theorem aev_assign {x : Operand} (ho : o.op = .assign x) : aev P o ρ H (ρ x) H :=
  aev_pure fun β a hx => ⟨a.eval x, hx x (by rw [ho]; simp [Op.operands]), fun w => by simp [execOp, ho]⟩

theorem aev_pick {c x y : Operand} {b : Bool} (ho : o.op = .pick c x y) (hc : ρ c = .bool b) : aev P o ρ H (if b then ρ x else ρ y) H :=
  aev_pure fun β a hx => by
    have h1 := hx c (by rw [ho]; simp [Op.operands])
    have h2 := hx x (by rw [ho]; simp [Op.operands])
    have h3 := hx y (by rw [ho]; simp [Op.operands])
    rw [hc] at h1
    have h4 := VR.still_eq rfl h1
    refine ⟨if b then a.eval x else a.eval y, by cases b <;> assumption, fun w => ?_⟩
    simp [execOp, ho, h4, asBool]

/-- What two whole numbers come to. -/
def ibin (op : BinOp) (k : IntKind) (a b : Int) : Option Value :=
  match op with
  | .add => some (.int k (k.wrap (a + b)))
  | .sub => some (.int k (k.wrap (a - b)))
  | .mul => some (.int k (k.wrap (a * b)))
  | .eql => some (.bool (decide (a = b)))
  | .neq => some (.bool (!decide (a = b)))
  | .lss => some (.bool (decide (a < b)))
  | .leq => some (.bool (decide (a ≤ b)))
  | .gtr => some (.bool (decide (b < a)))
  | .geq => some (.bool (decide (b ≤ a)))
  | _ => none

theorem ibin_still {op : BinOp} {k : IntKind} {a b : Int} {v : Value} (h : ibin op k a b = some v) : Value.still v = true := by
  unfold ibin at h
  split at h <;> first | (cases h; rfl) | cases h

theorem aev_bin {op : BinOp} {t u : TypeId} {x y : Operand} {k : IntKind} {a b : Int} {v : Value} (ho : o.op = .binOp op t x y u) (hx : ρ x = .int k a) (hy : ρ y = .int k b) (hv : ibin op k a b = some v) : aev P o ρ H v H :=
  aev_pure fun β ac hxs => by
    have h1 := hxs x (by rw [ho]; simp [Op.operands])
    have h2 := hxs y (by rw [ho]; simp [Op.operands])
    rw [hx] at h1
    rw [hy] at h2
    have e1 := VR.still_eq rfl h1
    have e2 := VR.still_eq rfl h2
    refine ⟨v, VR.still (ibin_still hv), fun w => ?_⟩
    unfold ibin at hv
    split at hv <;> first
      | (cases hv; simp [execOp, ho, e1, e2, eqGuard_at_int, binOp, Op.intArith, Op.intCmp]; done)
      | (cases hv; by_cases hab : a = b <;> simp [execOp, ho, e1, e2, eqGuard_at_int, binOp, Op.intArith, Op.intCmp, hab]; done)
      | cases hv

theorem aev_not {t : TypeId} {x : Operand} {b : Bool} (ho : o.op = .unOp .not t x) (hx : ρ x = .bool b) : aev P o ρ H (.bool (!b)) H :=
  aev_pure fun β ac hxs => by
    have h1 := hxs x (by rw [ho]; simp [Op.operands])
    rw [hx] at h1
    have e1 := VR.still_eq rfl h1
    exact ⟨.bool (!b), .bool _, fun w => by simp [execOp, ho, e1, Op.unary]⟩

/-- Two bools compared. -/
theorem aev_beq {t u : TypeId} {x y : Operand} {a b : Bool} (ho : o.op = .binOp .eql t x y u) (hx : ρ x = .bool a) (hy : ρ y = .bool b) (ht : P.underlying t = some .bool) : aev P o ρ H (.bool (a == b)) H :=
  aev_pure fun β ac hxs => by
    have h1 := hxs x (by rw [ho]; simp [Op.operands])
    have h2 := hxs y (by rw [ho]; simp [Op.operands])
    rw [hx] at h1
    rw [hy] at h2
    have e1 := VR.still_eq rfl h1
    have e2 := VR.still_eq rfl h2
    refine ⟨.bool (a == b), .bool _, fun w => ?_⟩
    simp [execOp, ho, e1, e2, eqGuard_at_bool, run_eql_bool w t a b ht]

theorem aev_bne {t u : TypeId} {x y : Operand} {a b : Bool} (ho : o.op = .binOp .neq t x y u) (hx : ρ x = .bool a) (hy : ρ y = .bool b) (ht : P.underlying t = some .bool) : aev P o ρ H (.bool (!(a == b))) H :=
  aev_pure fun β ac hxs => by
    have h1 := hxs x (by rw [ho]; simp [Op.operands])
    have h2 := hxs y (by rw [ho]; simp [Op.operands])
    rw [hx] at h1
    rw [hy] at h2
    have e1 := VR.still_eq rfl h1
    have e2 := VR.still_eq rfl h2
    refine ⟨.bool (!(a == b)), .bool _, fun w => ?_⟩
    simp [execOp, ho, e1, e2, eqGuard_at_bool, run_neq_bool w t a b ht]

theorem aev_len {t : TypeId} {x : Operand} {p : Option Addr} {n c : Nat} {ts : Array TypeId} (ho : o.op = .call { callee := .builtin .len, args := #[x], argTypes := ts }) (hts : ts = #[t]) (ht : P.underlying t = some (.slice (P.elem t))) (hx : ρ x = .slice p n c) :
    aev P o ρ H (.int .i64 n) H :=
  aev_pure fun β ac hxs => by
    have h1 := hxs x (by rw [ho]; simp [Op.operands, Call.operands])
    rw [hx] at h1
    refine ⟨.int .i64 n, .int _ _, fun w => ?_⟩
    subst hts
    generalize he : ac.eval x = u at h1
    cases h1 with
    | emp a c' hm => have := run_len_slice (P := P) (w := w) t o.type (some a) 0 c' ht; simp [execOp, ho, resolve, invoke, builtin, he, this, goInt]
    | nilslice => have := run_len_slice (P := P) (w := w) t o.type none 0 0 ht; simp [execOp, ho, resolve, invoke, builtin, he, this, goInt]
    | slice hb hoff hl hm hk =>
      rename_i id off off' b k c'
      have := run_len_slice (P := P) (w := w) t o.type (some ⟨b, off', none⟩) n c' ht; simp [execOp, ho, resolve, invoke, builtin, he, this, goInt]

/-! ### memory -/
def aggB : TypeDesc → Bool
  | .struct _ | .array _ _ => true
  | _ => false

theorem run_isAgg {t : TypeId} {d : TypeDesc} (ht : P.underlying t = some d) (w : World) : (isAgg t).run P w = .ok (aggB d) w := by
  unfold isAgg
  simp only [Sem.run_bind, run_underlying ht, Result.andThen_ok]
  cases d <;> rfl

theorem aev_load {t : TypeId} {d : TypeDesc} {x : Operand} {id off : Nat} {ob : Ob} {v : Value} (ho : o.op = .load t x) (ht : P.underlying t = some d) (hd : aggB d = false) (hx : ρ x = .pointer (some ⟨id, off, none⟩))
    (hg : H.get id = some ob) (hv : ob.cs[off]? = some v) : aev P o ρ H v H :=
  aev_intro fun B β ac w hxs hr => by
    have h1 := hxs x (by rw [ho]; simp [Op.operands])
    rw [hx] at h1
    generalize he : ac.eval x = u at h1
    cases h1 with
    | ptr hb =>
      rename_i b k
      obtain ⟨u, h2, h3⟩ := hr.cell id ob b k hg hb off v hv
      refine ⟨β, u, w, ?_, h3, hr, Fr.refl hr⟩
      simp [execOp, ho, he, Instr.loadAt, Instr.sureAddr, loadVar, run_isAgg ht, hd, h2]

/-- The cells of a struct in memory. -/
theorem aev_loadN {t : TypeId} {d : TypeDesc} {x : Operand} {id off n : Nat} {ob : Ob} {cs : List Value} {i : TypeInfo} (ho : o.op = .load t x) (ht : P.underlying t = some d) (hd : aggB d = true) (hi : P.info? t = some i) (hn : i.size = cs.length)
    (hx : ρ x = .pointer (some ⟨id, off, none⟩)) (hg : H.get id = some ob) (hv : ∀ j v, cs[j]? = some v → ob.cs[off + j]? = some v) : aev P o ρ H (.agg cs.toArray) H :=
  aev_intro fun B β ac w hxs hr => by
    have h1 := hxs x (by rw [ho]; simp [Op.operands])
    rw [hx] at h1
    generalize he : ac.eval x = u at h1
    cases h1 with
    | ptr hb =>
      rename_i b k
      have hc : ∀ j, ∃ u, j < cs.length → w.cell? ⟨b, off + j, none⟩ = some u ∧ VR β (cs.getD j junk) u := by
        intro j
        by_cases hj : j < cs.length
        · obtain ⟨u, h2, h3⟩ := hr.cell id ob b k hg hb (off + j) _ (hv j cs[j] (List.getElem?_eq_getElem hj))
          exact ⟨u, fun _ => ⟨h2, by simpa [List.getD_eq_getElem?_getD, hj] using h3⟩⟩
        · exact ⟨junk, fun h => absurd h hj⟩
      obtain ⟨us, hus⟩ : ∃ us : Nat → Value, ∀ j, j < cs.length → w.cell? ⟨b, off + j, none⟩ = some (us j) ∧ VR β (cs.getD j junk) (us j) := ⟨fun j => Classical.choose (hc j), fun j => Classical.choose_spec (hc j)⟩
      have hl : ((List.range cs.length).map us).length = cs.length := by simp
      have hcell : ∀ j v, ((List.range cs.length).map us)[j]? = some v → w.cell? ((⟨b, off, none⟩ : Addr).add j) = some v := by
        intro j v hjv
        have hj : j < cs.length := by
          have := (List.getElem?_eq_some_iff.1 hjv).1
          simpa using this
        have e : ((List.range cs.length).map us)[j]? = some (us j) := by simp [hj]
        rw [e] at hjv
        injection hjv with hjv
        rw [Addr.add_lit, ← hjv]
        exact (hus j hj).1
      have hrun := run_loadCells_list (P := P) (w := w) ⟨b, off, none⟩ ((List.range cs.length).map us) hcell
      rw [hl] at hrun
      refine ⟨β, .agg ((List.range cs.length).map us).toArray, w, ?_, ?_, hr, Fr.refl hr⟩
      · simp [execOp, ho, he, Instr.loadAt, Instr.sureAddr, loadVar, run_isAgg ht, hd, sizeOf, typeInfo, hi, hn, hrun]
      · refine .agg (by simp) fun j hj => ?_
        have hj' : j < cs.length := by simpa using hj
        have := (hus j hj').2
        simpa [Array.getD_eq_getD_getElem?, List.getD_eq_getElem?_getD, hj'] using this

theorem aev_fieldAddr {s : TypeId} {x : Operand} {f : Nat} {fl : Field} {fs : Array Field} {i : TypeInfo} {id off : Nat} (ho : o.op = .fieldAddr s x f) (hs : P.underlying s = some (.struct fs)) (hf : fs[f]? = some fl) (hi : P.info? fl.type = some i) (hz : i.size ≠ 0)
    (hx : ρ x = .pointer (some ⟨id, off, none⟩)) : aev P o ρ H (.pointer (some ⟨id, off + fl.offset, none⟩)) H :=
  aev_pure fun β ac hxs => by
    have h1 := hxs x (by rw [ho]; simp [Op.operands])
    rw [hx] at h1
    generalize he : ac.eval x = u at h1
    cases h1 with
    | ptr hb =>
      rename_i b k
      exact ⟨.pointer (some ⟨b, off + fl.offset, none⟩), .ptr hb, fun w => by simp [execOp, ho, he, Instr.fieldAt, run_underlying hs, hf, Instr.sureAddr, fieldPlace, sizeOf, typeInfo, hi, hz, Addr.add_lit]⟩

theorem aev_nilCheck {x : Operand} {id off : Nat} (ho : o.op = .nilCheck x) (hx : ρ x = .pointer (some ⟨id, off, none⟩)) : aev P o ρ H (.pointer (some ⟨id, off, none⟩)) H :=
  aev_pure fun β ac hxs => by
    have h1 := hxs x (by rw [ho]; simp [Op.operands])
    rw [hx] at h1
    generalize he : ac.eval x = u at h1
    cases h1 with
    | ptr hb =>
      rename_i b k
      exact ⟨.pointer (some ⟨b, off, none⟩), .ptr hb, fun w => by simp [execOp, ho, he]⟩

theorem aev_indexAddr {t e : TypeId} {x y : Operand} {id off len : Nat} {k : IntKind} {j : Int} {i : TypeInfo} (ho : o.op = .indexAddr t x y) (ht : P.underlying t = some (.slice e)) (hi : P.info? e = some i) (hx : ρ x = .slice (some ⟨id, off, none⟩) len len) (hy : ρ y = .int k j)
    (h0 : 0 ≤ j) (h1 : j < len) : aev P o ρ H (.pointer (some ⟨id, off + j.toNat * i.size, none⟩)) H :=
  aev_pure fun β ac hxs => by
    have g1 := hxs x (by rw [ho]; simp [Op.operands])
    have g2 := hxs y (by rw [ho]; simp [Op.operands])
    rw [hx] at g1
    rw [hy] at g2
    have e2 := VR.still_eq rfl g2
    generalize he : ac.eval x = u at g1
    cases g1 with
    | slice hb hoff hl hm hk =>
      rename_i off' b k c
      obtain rfl : off' = off := by omega
      refine ⟨.pointer (some ⟨b, off' + j.toNat * i.size, none⟩), .ptr hb, fun w => ?_⟩
      simp [execOp, ho, he, e2, Instr.indexAt, asIntOf, run_underlying ht, h0, h1, sizeOf, typeInfo, hi, Addr.add_lit]

end
end Go.Proofs.Ytefmjpbmdoebaaa
