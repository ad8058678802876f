/- The abstract machine, part 7: cuts, literals, calls. -/
import Derived.Test.YtefmjpbmdoebaaaAm6
set_option linter.unusedVariables false
set_option linter.unusedSimpArgs false
namespace Go.Proofs.Ytefmjpbmdoebaaa
open Go Go.RowKit

section
variable {P : Program} {o : Oper} {ρ : Operand → Value} {H H' : Hp} {r : Value}

theorem VR.cut {β : Bm} {id off n l h sz : Nat} {u : Value} (hv : VR β (.slice (some ⟨id, off, none⟩) n n) u) (h1 : l ≤ h) (h2 : h ≤ n) (hz : ∀ b K s, β id = some (b, some (K, s)) → s = sz) :
    ∃ p c, u = .slice (some p) n c ∧ n ≤ c ∧ VR β (.slice (some ⟨id, off + l * sz, none⟩) (h - l) (h - l)) (.slice (if c = l then some p else some (p.add (l * sz))) (h - l) (c - l)) := by
  cases hv with
  | slice hb hof hlc hm hk =>
    rename_i off' b k c
    refine ⟨_, _, rfl, hlc, ?_⟩
    by_cases e : c = l
    · rw [if_pos e]
      have hhl : h - l = 0 := by omega
      have hcl : c - l = 0 := by omega
      rw [hhl, hcl]
      by_cases hz0 : off + l * sz = off'
      · refine .slice hb (.inl hz0.symm) (Nat.le_refl _) (by simp) fun K s h => ?_
        have := hk K s h; omega
      · rcases Nat.eq_zero_or_pos (off + l * sz) with h0 | h0
        · have : off' = 0 := by omega
          omega
        · exact .slice hb (.inr ⟨rfl, by omega⟩) (Nat.le_refl _) (by simp) fun K s h => by have := hk K s h; omega
    · rw [if_neg e]
      rw [Addr.add_lit]
      refine .slice hb ?_ (by omega) (by omega) fun K s h => ?_
      · rcases hof with h3 | ⟨h3, h4⟩
        · exact .inl (by rw [h3])
        · exact .inr ⟨by omega, by omega⟩
      · have h3 := hk K s h
        have h4 := hz b K s (by rw [hb, h])
        subst h4
        have h5 : (c - l) * s + l * s = c * s := by rw [← Nat.add_mul]; congr 1; omega
        omega

theorem arr_at {xs : Array Value} {i : Nat} {v : Value} (h : xs[i]? = some v) : xs.getD i junk = v := by rw [Array.getD_eq_getD_getElem?, h]; rfl
theorem arr_get {xs : Array Value} {i : Nat} (h : i < xs.size) : xs[i]? = some (xs.getD i junk) := by rw [Array.getD_eq_getD_getElem?, Array.getElem?_eq_getElem h]; rfl

theorem cut_size {B : Nat} {β : Bm} {w : World} (hr : HR B β H w) {id : Nat} {ob : Ob} {sz : Nat} (hg : H.get id = some ob) (hs : ob.sz = sz ∨ ob.sz = 0) : ∀ b K s, β id = some (b, some (K, s)) → s = sz :=
  fun b K s h => by
    obtain ⟨h1, h2⟩ := hr.siz id ob b K s hg h
    rcases hs with h3 | h3
    · exact h1.trans h3
    · omega

/-- x[l:h] -/
theorem aev_slice {t e : TypeId} {x y1 y2 : Operand} {k1 k2 : IntKind} {l h : Int} {id off n : Nat} {ob : Ob} {i : TypeInfo} (ho : o.op = .slice t x (some y1) (some y2) none) (ht : P.underlying t = some (.slice e)) (hi : P.info? e = some i)
    (hx : ρ x = .slice (some ⟨id, off, none⟩) n n) (hy1 : ρ y1 = .int k1 l) (hy2 : ρ y2 = .int k2 h) (hg : H.get id = some ob) (hs : ob.sz = i.size ∨ ob.sz = 0) (h0 : 0 ≤ l) (h1 : l ≤ h) (h2 : h ≤ n) :
    aev P o ρ H (.slice (some ⟨id, off + l.toNat * i.size, none⟩) (h.toNat - l.toNat) (h.toNat - l.toNat)) H :=
  aev_intro fun B β a w hxs hr => by
    have g1 := hxs x (by rw [ho]; simp [Op.operands])
    have g2 := hxs y1 (by rw [ho]; simp [Op.operands])
    have g3 := hxs y2 (by rw [ho]; simp [Op.operands])
    rw [hx] at g1
    rw [hy1] at g2
    rw [hy2] at g3
    have e2 := VR.still_eq rfl g2
    have e3 := VR.still_eq rfl g3
    obtain ⟨p, c, e1, hc, hv⟩ := g1.cut (l := l.toNat) (h := h.toNat) (by omega) (by omega) (cut_size hr hg hs)
    have hel : P.elem t = e := by simp [Program.elem, ht]
    have hu : P.underlying t = some (.slice (P.elem t)) := by rw [hel]; exact ht
    refine ⟨β, _, w, ?_, hv, hr, Fr.refl hr⟩
    simp [execOp, ho, e1, e2, e3, run_sliceAt_slice _ t _ _ _ _ hu, run_slice_lh w t (some p) n c hu k1 k2 l h h0 h1 (by omega), hel, sizeOf, typeInfo, hi, sliced]

/-- x[:h] -/
theorem aev_slice_h {t e : TypeId} {x y2 : Operand} {k2 : IntKind} {h : Int} {id off n : Nat} {ob : Ob} {i : TypeInfo} (ho : o.op = .slice t x none (some y2) none) (ht : P.underlying t = some (.slice e)) (hi : P.info? e = some i)
    (hx : ρ x = .slice (some ⟨id, off, none⟩) n n) (hy2 : ρ y2 = .int k2 h) (hg : H.get id = some ob) (hs : ob.sz = i.size ∨ ob.sz = 0) (h1 : 0 ≤ h) (h2 : h ≤ n) :
    aev P o ρ H (.slice (some ⟨id, off, none⟩) h.toNat h.toNat) H :=
  aev_intro fun B β a w hxs hr => by
    have g1 := hxs x (by rw [ho]; simp [Op.operands])
    have g3 := hxs y2 (by rw [ho]; simp [Op.operands])
    rw [hx] at g1
    rw [hy2] at g3
    have e3 := VR.still_eq rfl g3
    obtain ⟨p, c, e1, hc, hv⟩ := g1.cut (l := 0) (h := h.toNat) (by omega) (by omega) (cut_size hr hg hs)
    have hel : P.elem t = e := by simp [Program.elem, ht]
    have hu : P.underlying t = some (.slice (P.elem t)) := by rw [hel]; exact ht
    rw [Nat.zero_mul, Nat.add_zero, Nat.sub_zero] at hv
    refine ⟨β, _, w, ?_, hv, hr, Fr.refl hr⟩
    simp [execOp, ho, e1, e3, run_sliceAt_slice _ t _ _ _ _ hu, run_slice_h w t (some p) n c hu k2 h h1 (by omega), hel, sizeOf, typeInfo, hi, sliced]

/-- x[l:] -/
theorem aev_slice_l {t e : TypeId} {x y1 : Operand} {k1 : IntKind} {l : Int} {id off n : Nat} {ob : Ob} {i : TypeInfo} (ho : o.op = .slice t x (some y1) none none) (ht : P.underlying t = some (.slice e)) (hi : P.info? e = some i)
    (hx : ρ x = .slice (some ⟨id, off, none⟩) n n) (hy1 : ρ y1 = .int k1 l) (hg : H.get id = some ob) (hs : ob.sz = i.size ∨ ob.sz = 0) (h1 : 0 ≤ l) (h2 : l ≤ n) :
    aev P o ρ H (.slice (some ⟨id, off + l.toNat * i.size, none⟩) (n - l.toNat) (n - l.toNat)) H :=
  aev_intro fun B β a w hxs hr => by
    have g1 := hxs x (by rw [ho]; simp [Op.operands])
    have g2 := hxs y1 (by rw [ho]; simp [Op.operands])
    rw [hx] at g1
    rw [hy1] at g2
    have e2 := VR.still_eq rfl g2
    obtain ⟨p, c, e1, hc, hv⟩ := g1.cut (l := l.toNat) (h := n) (by omega) (Nat.le_refl _) (cut_size hr hg hs)
    have hel : P.elem t = e := by simp [Program.elem, ht]
    have hu : P.underlying t = some (.slice (P.elem t)) := by rw [hel]; exact ht
    refine ⟨β, _, w, ?_, hv, hr, Fr.refl hr⟩
    simp [execOp, ho, e1, e2, run_sliceAt_slice _ t _ _ _ _ hu, run_slice_l w t (some p) n c hu k1 l h1 h2, hel, sizeOf, typeInfo, hi, sliced]

theorem aev_extract {x : Operand} {j : Nat} {vs : Array Value} {v : Value} (ho : o.op = .extract x j) (hx : ρ x = .tuple vs) (hv : vs[j]? = some v) : aev P o ρ H v H :=
  aev_pure fun β a hxs => by
    have g1 := hxs x (by rw [ho]; simp [Op.operands])
    rw [hx] at g1
    generalize he : a.eval x = u at g1
    cases g1 with
    | tuple hs hr =>
      rename_i ys
      have hlt := (Array.getElem?_eq_some_iff.1 hv).1
      have h1 := hr j hlt
      have e1 : ys[j]? = some (ys.getD j junk) := arr_get (by omega)
      have e2 : vs.getD j junk = v := arr_at hv
      rw [e2] at h1
      generalize ys.getD j junk = z at e1 h1
      exact ⟨z, h1, fun w => by simp [execOp, ho, he, Instr.extract, e1]⟩

/-- A field of a struct that lies in a slot. -/
theorem aev_field {t : TypeId} {x : Operand} {f : Nat} {fl : Field} {fs : Array Field} {d : TypeDesc} {xs : Array Value} {v : Value} (ho : o.op = .field t x f) (ht : P.underlying t = some (.struct fs)) (hf : fs[f]? = some fl) (hd : P.underlying fl.type = some d) (hd2 : aggB d = false)
    (hx : ρ x = .agg xs) (hv : xs[fl.offset]? = some v) : aev P o ρ H v H :=
  aev_pure fun β a hxs => by
    have g1 := hxs x (by rw [ho]; simp [Op.operands])
    rw [hx] at g1
    generalize he : a.eval x = u at g1
    cases g1 with
    | agg hs hr =>
      rename_i ys
      have hlt := (Array.getElem?_eq_some_iff.1 hv).1
      have h1 := hr fl.offset hlt
      have e1 : ys[fl.offset]? = some (ys.getD fl.offset junk) := arr_get (by omega)
      have e2 : xs.getD fl.offset junk = v := arr_at hv
      rw [e2] at h1
      generalize ys.getD fl.offset junk = z at e1 h1
      exact ⟨z, h1, fun w => by simp [execOp, ho, he, Instr.field, run_underlying ht, hf, asAgg, part, run_isAgg hd, hd2, e1]⟩

theorem aev_convert {t u : TypeId} {x : Operand} {k k' : IntKind} {n : Int} {d : TypeDesc} (ho : o.op = .convert t u x) (ht : P.underlying t = some d) (hu : P.underlying u = some (.int k')) (hx : ρ x = .int k n) : aev P o ρ H (.int k' (k'.wrap n)) H :=
  aev_pure fun β a hxs => by
    have g1 := hxs x (by rw [ho]; simp [Op.operands])
    rw [hx] at g1
    have e1 := VR.still_eq rfl g1
    refine ⟨.int k' (k'.wrap n), .int _ _, fun w => ?_⟩
    simp [execOp, ho, e1, convert, run_underlying ht, run_underlying hu, Conv.intToInt]

theorem aev_makeFunc {f : Fn} {xs ys : Array Operand} (ho : o.op = .makeFunc f xs ys) : aev P o ρ H (.func f (xs.map ρ) (ys.map ρ)) H :=
  aev_pure fun β a hxs => by
    refine ⟨.func f (xs.map a.eval) (ys.map a.eval), ?_, fun w => by simp [execOp, ho, Instr.makeFunc]⟩
    have key : ∀ zs : Array Operand, (∀ z ∈ zs, z ∈ o.op.operands) → ∀ i, i < (zs.map ρ).size → VR β ((zs.map ρ).getD i junk) ((zs.map a.eval).getD i junk) := by
      intro zs hz i hi
      have hi' : i < zs.size := by simpa using hi
      have := hxs zs[i] (hz _ (Array.getElem_mem hi'))
      simpa [Array.getD_eq_getD_getElem?, hi'] using this
    exact .func f (by simp) (key xs (fun z hz => by rw [ho]; simp [Op.operands, hz])) (by simp) (key ys (fun z hz => by rw [ho]; simp [Op.operands, hz]))

/-- s[i], s a string. -/
theorem aev_index {t : TypeId} {x y : Operand} {k : IntKind} {s : ByteArray} {j : Int} (ho : o.op = .index t x y) (ht : P.underlying t = some .string) (hx : ρ x = .string s) (hy : ρ y = .int k j) (h0 : 0 ≤ j) (h1 : j.toNat < s.size) :
    aev P o ρ H (.int .u8 (s[j.toNat]'h1).toNat) H :=
  aev_pure fun β a hxs => by
    have g1 := hxs x (by rw [ho]; simp [Op.operands])
    have g2 := hxs y (by rw [ho]; simp [Op.operands])
    rw [hx] at g1
    rw [hy] at g2
    have e1 := VR.still_eq rfl g1
    have e2 := VR.still_eq rfl g2
    refine ⟨_, .int _ _, fun w => ?_⟩
    simp [execOp, ho, e1, e2, Instr.index, asIntOf, run_underlying ht, h0, h1]

theorem aev_strlen {t : TypeId} {x : Operand} {s : ByteArray} {ts : Array TypeId} (ho : o.op = .call { callee := .builtin .len, args := #[x], argTypes := ts }) (hts : ts = #[t]) (ht : P.underlying t = some .string) (hx : ρ x = .string s) : aev P o ρ H (.int .i64 s.size) H :=
  aev_pure fun β ac hxs => by
    have h1 := hxs x (by rw [ho]; simp [Op.operands, Call.operands])
    rw [hx] at h1
    have e1 := VR.still_eq rfl h1
    subst hts
    refine ⟨.int .i64 s.size, .int _ _, fun w => ?_⟩
    have := run_len_string (P := P) (w := w) t o.type s ht
    simp [execOp, ho, resolve, invoke, builtin, e1, this, goInt]

end
end Go.Proofs.Ytefmjpbmdoebaaa
