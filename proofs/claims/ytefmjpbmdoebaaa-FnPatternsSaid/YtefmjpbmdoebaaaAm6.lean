/- The abstract machine, part 6: what stores, append, slices, make and literals come to. -/
import Derived.Test.YtefmjpbmdoebaaaAm5
set_option linter.unusedVariables false
set_option linter.unusedSimpArgs false
namespace Go.Proofs.Ytefmjpbmdoebaaa
open Go Go.RowKit

/-- Part of a list written over. -/
def splice {α : Type} (cs : List α) (off : Nat) (vs : List α) : List α := cs.take off ++ vs ++ cs.drop (off + vs.length)

theorem splice_length {α : Type} {cs vs : List α} {off : Nat} (h : off + vs.length ≤ cs.length) : (splice cs off vs).length = cs.length := by
  simp [splice]; omega

theorem splice_get {α : Type} {cs vs : List α} {off : Nat} (h : off + vs.length ≤ cs.length) (i : Nat) : (splice cs off vs)[i]? = if off ≤ i ∧ i < off + vs.length then vs[i - off]? else cs[i]? := by
  unfold splice
  have hl : (cs.take off).length = off := by rw [List.length_take]; omega
  rcases Nat.lt_or_ge i off with h1 | h1
  · rw [if_neg (by omega), List.append_assoc, List.getElem?_append_left (by omega), List.getElem?_take_of_lt h1]
  · rw [List.append_assoc, List.getElem?_append_right (by omega), hl]
    rcases Nat.lt_or_ge i (off + vs.length) with h2 | h2
    · rw [if_pos ⟨h1, h2⟩, List.getElem?_append_left (by omega)]
    · rw [if_neg (by omega), List.getElem?_append_right (by omega), List.getElem?_drop]
      congr 1; omega

theorem splice_one {α : Type} {cs : List α} {off : Nat} {v : α} (h : off < cs.length) : splice cs off [v] = cs.set off v := by
  apply List.ext_getElem?
  intro i
  rw [splice_get (by simp; omega), List.getElem?_set]
  by_cases e : off = i
  · subst e; rw [if_pos ⟨Nat.le_refl _, by simp⟩, if_pos rfl, if_pos h]; simp
  · rw [if_neg (by simp; omega), if_neg e]

/-- Two lists written over alike stay related. -/
theorem splice_rel {R : Value → Value → Prop} {cs vs : List Value} {us ws : List Value} {off : Nat} (h1 : ∀ (i : Nat) (v : Value), cs[i]? = some v → ∃ u, us[i]? = some u ∧ R v u) (hl : vs.length = ws.length)
    (h2 : ∀ (i : Nat) (v : Value), vs[i]? = some v → ∃ u, ws[i]? = some u ∧ R v u) (hf : off + vs.length ≤ cs.length) (hu : off + vs.length ≤ us.length) :
    ∀ (i : Nat) (v : Value), (splice cs off vs)[i]? = some v → ∃ u, (splice us off ws)[i]? = some u ∧ R v u := by
  intro i v hi
  rw [splice_get hf] at hi
  rw [splice_get (by omega)]
  split at hi
  · rename_i h
    rw [if_pos (by omega)]; exact h2 _ _ hi
  · rename_i h
    rw [if_neg (by omega)]; exact h1 _ _ hi

theorem getD_rel {β : Bm} {us : Array Value} {n : Nat} {l : List Value} (hl : l.length = us.size) (h : ∀ (i : Nat) (x : Value), l[i]? = some x → VR β x (us.getD i junk)) : ∀ (i : Nat) (x : Value), l[i]? = some x → ∃ u, us[i]? = some u ∧ VR β x u := by
  intro i x hi
  have hlt : i < us.size := by rw [← hl]; exact (List.getElem?_eq_some_iff.1 hi).1
  exact ⟨us[i], by simp [hlt], by have := h i x hi; simpa [Array.getD_eq_getD_getElem?, hlt] using this⟩

theorem one_known {v : Value} (h : (cellsOf v).all Value.one = true) : Value.known v = true := by
  unfold Value.known
  split
  · rfl
  · rename_i hv
    unfold cellsOf at h
    split at h
    · rename_i xs; exact absurd rfl (hv xs)
    · simpa using h

/-- What is read of a row, in the world. -/
theorem HR.read {B : Nat} {β : Bm} {H : Hp} {w : World} (hr : HR B β H w) {id b off : Nat} {k} {ob : Ob} (hg : H.get id = some ob) (hb : β id = some (b, k)) (cs : List Value) (hc : ∀ (j : Nat) (v : Value), cs[j]? = some v → ob.cs[off + j]? = some v) :
    ∃ us : List Value, us.length = cs.length ∧ (∀ (j : Nat) (u : Value), us[j]? = some u → w.cell? ((⟨b, off, none⟩ : Addr).add j) = some u) ∧ ∀ (j : Nat) (v : Value), cs[j]? = some v → ∃ u, us[j]? = some u ∧ VR β v u := by
  have h : ∀ j, ∃ u, j < cs.length → w.cell? ⟨b, off + j, none⟩ = some u ∧ VR β (cs.getD j junk) u := by
    intro j
    by_cases hj : j < cs.length
    · obtain ⟨u, h2, h3⟩ := hr.cell id ob b k hg hb (off + j) _ (hc j cs[j] (List.getElem?_eq_getElem hj))
      exact ⟨u, fun _ => ⟨h2, by simpa [List.getD_eq_getElem?_getD, hj] using h3⟩⟩
    · exact ⟨junk, fun h => absurd h hj⟩
  obtain ⟨f, hf⟩ : ∃ f : Nat → Value, ∀ j, j < cs.length → w.cell? ⟨b, off + j, none⟩ = some (f j) ∧ VR β (cs.getD j junk) (f j) := ⟨fun j => Classical.choose (h j), fun j => Classical.choose_spec (h j)⟩
  refine ⟨(List.range cs.length).map f, by simp, ?_, ?_⟩
  · intro j u hj
    have hlt : j < cs.length := by
      have := (List.getElem?_eq_some_iff.1 hj).1
      simpa using this
    have e : ((List.range cs.length).map f)[j]? = some (f j) := by simp [hlt]
    rw [e] at hj
    injection hj with hj
    rw [Addr.add_lit, ← hj]
    exact (hf j hlt).1
  · intro j v hj
    have hlt := (List.getElem?_eq_some_iff.1 hj).1
    refine ⟨f j, by simp [hlt], ?_⟩
    have := (hf j hlt).2
    simpa [List.getD_eq_getElem?_getD, hj] using this

theorem rel_one {β : Bm} {cs us : List Value} (h1 : cs.all Value.one = true) (hl : us.length = cs.length) (h : ∀ (j : Nat) (v : Value), cs[j]? = some v → ∃ u, us[j]? = some u ∧ VR β v u) : ∀ u ∈ us, u.oneCell' = true := by
  intro u hu
  obtain ⟨j, hj, rfl⟩ := List.mem_iff_getElem.1 hu
  have hlt : j < cs.length := by omega
  obtain ⟨u', h2, h3⟩ := h j cs[j] (List.getElem?_eq_getElem hlt)
  rw [List.getElem?_eq_getElem hj] at h2
  injection h2 with h2
  subst h2
  rw [List.all_eq_true] at h1
  exact VR.one (h1 _ (List.getElem_mem hlt)) h3

section
variable {P : Program} {o : Oper} {ρ : Operand → Value} {H H' : Hp} {r : Value}

theorem aev_store {t : TypeId} {x y : Operand} {id off : Nat} {ob : Ob} {i : TypeInfo} (ho : o.op = .store t x y) (hi : P.info? t = some i) (hn : i.size = (cellsOf (ρ y)).length) (h1 : (cellsOf (ρ y)).all Value.one = true)
    (hx : ρ x = .pointer (some ⟨id, off, none⟩)) (hg : H.get id = some ob) (hlo : H.own id = true) (hfit : off + (cellsOf (ρ y)).length ≤ ob.cs.length) :
    aev P o ρ H undef (H.upd id ⟨ob.e, ob.sz, splice ob.cs off (cellsOf (ρ y))⟩ (Hp.lt hg)) := by
  intro B β a w hxs hr next Q hnx
  have g1 := hxs x (by rw [ho]; simp [Op.operands])
  have g2 := hxs y (by rw [ho]; simp [Op.operands])
  rw [hx] at g1
  obtain ⟨c1, c2⟩ := g2.cells (one_known h1)
  generalize he : a.eval x = u at g1
  cases g1 with
  | ptr hb =>
    rename_i b k
    obtain ⟨hB, K, cur, hk, hc, hK, hl⟩ := hr.own id ob b k hg hb hlo
    have hcl : (a.eval y).cells.toList.length = (cellsOf (ρ y)).length := by simp [c1]
    have hrel := getD_rel (n := 0) c1 c2
    have hone := rel_one (us := (a.eval y).cells.toList) h1 hcl (by simpa using hrel)
    have hcell : ∀ (j : Nat) (v : Value), ob.cs[j]? = some v → ∃ u, cur.toList[j]? = some u ∧ VR β v u := by
      intro j v hj
      obtain ⟨u, h2, h3⟩ := hr.cell id ob b k hg hb j v hj
      refine ⟨u, ?_, h3⟩
      unfold World.cell? at h2
      rw [hc] at h2
      simpa using h2
    have hst := run_storeCells_at P b off ob.e (a.eval y).cells.toList 0 cur w hc (by rw [hcl]; omega) hone
    simp only [Nat.add_zero] at hst
    have hsp : (cur.toList.take off ++ (a.eval y).cells.toList ++ cur.toList.drop (off + (a.eval y).cells.toList.length)) = splice cur.toList off (a.eval y).cells.toList := rfl
    rw [hsp] at hst
    obtain ⟨h3, h4⟩ := hr.upd (w' := w.setRow b (splice cur.toList off (a.eval y).cells.toList).toArray) (ob' := ⟨ob.e, ob.sz, splice ob.cs off (cellsOf (ρ y))⟩) hg hb hlo (Hp.lt hg) rfl rfl (splice_length hfit) (by simp) (by simp) (by simp) (by simp)
      (fun j hj => setRow_other w b j _ hj) (setRow_heap w b cur _ ob.e _ hc)
      (fun K' sz h => by
        rw [hk] at h; cases h
        have : (splice cur.toList off (a.eval y).cells.toList).length = cur.toList.length := splice_length (by rw [hcl]; simp; omega)
        simp [this]; exact hK)
      (by
        have := splice_rel (off := off) hcell hcl.symm (by simpa using hrel) hfit (by simp; omega)
        simpa using this)
    have hrun : (execOp a.eval o).run P w = .ok .skip (w.setRow b (splice cur.toList off (a.eval y).cells.toList).toArray) := by
      simp [execOp, ho, he, Instr.storeAt, Instr.sureAddr, storeVar, sizeOf, typeInfo, hi, hn, c1, hst]
    unfold Oper.wp
    rw [hrun]
    exact hnx β undef _ VR.undef h3 h4

theorem lenOf_slice (p : Option Addr) (n c : Nat) (w : World) : (Builtin.lenOf (.slice p n c)).run P w = .ok n w := by simp [Builtin.lenOf]

/-- append(x, y...), x a row of the call's own. -/
theorem aev_append {t e : TypeId} {x y : Operand} {id n id2 off2 m : Nat} {ob ob2 : Ob} {news : List Value} {i : TypeInfo} {z : Value} {ts : Array TypeId} (ho : o.op = .call { callee := .builtin .append, args := #[x, y], argTypes := ts }) (hts : ts = #[t, t])
    (ht : P.underlying t = some (.slice e)) (hi : P.info? e = some i) (hz : i.zero = some z) (hx : ρ x = .slice (some ⟨id, 0, none⟩) n n) (hg : H.get id = some ob) (hlo : H.own id = true) (hoe : ob.e = e) (hos : ob.sz = i.size) (hfit : n * i.size = ob.cs.length)
    (hy : ρ y = .slice (some ⟨id2, off2, none⟩) m m) (hg2 : H.get id2 = some ob2) (hl : news.length = m * i.size) (hn : ∀ (j : Nat) (v : Value), news[j]? = some v → ob2.cs[off2 + j]? = some v) (h1 : news.all Value.one = true)
    (hzs : (cellsOf z).length = i.size) (hby : (n + m) * i.bytes ≤ 140737488355328) (h63 : n + m ≤ maxLen) (h0 : 0 < i.size) :
    aev P o ρ H (.slice (some ⟨H.nxt, 0, none⟩) (n + m) (n + m)) (H.app id ⟨e, i.size, ob.cs.take (n * i.size) ++ news⟩ (Hp.lt hg) hlo) :=
  aev_intro fun B β a w hxs hr => by
    have g1 := hxs x (by rw [ho]; simp [Op.operands, Call.operands])
    have g2 := hxs y (by rw [ho]; simp [Op.operands, Call.operands])
    rw [hx] at g1
    rw [hy] at g2
    subst hts hoe
    generalize he : a.eval x = u at g1
    generalize he2 : a.eval y = u2 at g2
    cases g1 with
    | slice hb hof hlc hm hk =>
      rename_i off' b k c
      obtain rfl : off' = 0 := by omega
      cases g2 with
      | slice hb2 hof2 hlc2 hm2 hk2 =>
        rename_i off2' b2 k2 c2
        obtain ⟨hB, K, cur, hkk, hc, hK, hlK⟩ := hr.own id ob b k hg hb hlo
        obtain ⟨us, u1, u2, u3⟩ := hr.read hg2 hb2 news hn
        have u2' : ∀ (j : Nat) (u : Value), us[j]? = some u → w.cell? ((⟨b2, off2', none⟩ : Addr).add j) = some u := by
          rcases hof2 with h | ⟨h, _⟩
          · rw [h]; exact u2
          · intro j u hj
            have := (List.getElem?_eq_some_iff.1 hj).1
            rw [u1, hl, h] at this; omega
        have hone := rel_one h1 u1 u3
        have hul : us.length = m * i.size := by rw [u1, hl]
        have hcell : ∀ (j : Nat) (v : Value), ob.cs[j]? = some v → ∃ u, cur.toList[j]? = some u ∧ VR β v u := by
          intro j v hj
          obtain ⟨u, h2, h3⟩ := hr.cell id ob b k hg hb j v hj
          refine ⟨u, ?_, h3⟩
          unfold World.cell? at h2
          rw [hc] at h2
          simpa using h2
        have hcK : c * i.size ≤ cur.size := by
          have := hk K ob.sz hkk
          rw [hos] at this; omega
        have hncur : n * i.size ≤ cur.size := Nat.le_trans (Nat.mul_le_mul_right _ hlc) hcK
        have hcs : ∀ (j : Nat) (v : Value), (ob.cs.take (n * i.size) ++ news)[j]? = some v → ∃ u, (cur.toList.take (n * i.size) ++ us)[j]? = some u ∧ VR β v u := by
          intro j v hj
          have e1 : (ob.cs.take (n * i.size)).length = n * i.size := by rw [List.length_take]; omega
          have e2 : (cur.toList.take (n * i.size)).length = n * i.size := by rw [List.length_take]; simp; omega
          rcases Nat.lt_or_ge j (n * i.size) with h | h
          · rw [List.getElem?_append_left (by omega), List.getElem?_take_of_lt h] at hj
            rw [List.getElem?_append_left (by omega), List.getElem?_take_of_lt h]
            exact hcell j v hj
          · rw [List.getElem?_append_right (by omega), e1] at hj
            rw [List.getElem?_append_right (by omega), e2]
            exact u3 _ v hj
        have hlen : (ob.cs.take (n * i.size) ++ news).length = (n + m) * i.size := by rw [List.length_append, List.length_take, hl, Nat.add_mul]; omega
        by_cases hroom : n + m ≤ c
        · have hfit2 : n * i.size + us.length ≤ cur.size := by
            rw [hul, ← Nat.add_mul]; exact Nat.le_trans (Nat.mul_le_mul_right _ hroom) hcK
          have hrun := run_append_room (P := P) w t o.type ob.e i ht hi b n c cur hc ⟨b2, off2', none⟩ m c2 us hul u2' hone hroom hfit2
          obtain ⟨h3, h4⟩ := hr.app (w' := w.setRow b (cur.toList.take (n * i.size) ++ us ++ cur.toList.drop (n * i.size + us.length)).toArray) (g := b) (K := K) (ob' := ⟨ob.e, i.size, ob.cs.take (n * i.size) ++ news⟩) hg hb hlo
            ⟨rfl, rfl, rfl, by simp, fun j _ hj => setRow_other w b j _ (fun e' => hj (by rw [e']))⟩ (.inl ⟨rfl, by show _ ≤ (ob.cs.take (n * i.size) ++ news).length; rw [hlen, ← hfit, Nat.add_mul]; omega⟩) (setRow_heap w b cur _ ob.e _ hc) (by simp; omega)
            (by
              have := hk K ob.sz hkk
              rw [hos] at this
              show (ob.cs.take (n * i.size) ++ news).length ≤ K
              rw [hlen]
              exact Nat.le_trans (Nat.mul_le_mul_right _ hroom) (by omega))
            (fun j v hj => by
              obtain ⟨u, h5, h6⟩ := hcs j v hj
              have hlt := (List.getElem?_eq_some_iff.1 h5).1
              exact ⟨u, by rw [List.getElem?_toArray, List.getElem?_append_left hlt]; exact h5, h6⟩)
            (fun j hj => by
              unfold World.cell?
              rw [setRow_heap w b cur _ ob.e _ hc, hc]
              have : j < (cur.toList.take (n * i.size)).length := by rw [List.length_take]; simp; omega
              show (_ : Array Value)[j]? = cur[j]?
              rw [List.getElem?_toArray, List.append_assoc, List.getElem?_append_left this, List.getElem?_take_of_lt (by omega)]
              simp) h0
          refine ⟨_, .slice (some ⟨b, 0, none⟩) (n + m) c, _, ?_, .slice (Bm.set_at _ _ _) (.inl rfl) hroom hm ?_, h3, h4⟩
          · simp [execOp, ho, resolve, invoke, builtin, he, he2, hrun]
          · intro K' sz h
            cases h
            have := hk K ob.sz hkk
            rw [hos] at this; exact this
        · have holds : ∀ (j : Nat) (u : Value), (cur.toList.take (n * i.size))[j]? = some u → w.cell? ((⟨b, 0, none⟩ : Addr).add j) = some u := by
            intro j u hj
            rw [Addr.add_lit, Nat.zero_add]
            unfold World.cell?
            rw [hc]
            rw [List.getElem?_take] at hj
            split at hj
            · simpa using hj
            · cases hj
          have hrun := run_append_grow (P := P) w t o.type ob.e i z ht hi hz ⟨b, 0, none⟩ n c (cur.toList.take (n * i.size)) (by rw [List.length_take]; simp; omega) holds ⟨b2, off2', none⟩ m c2 us hul u2' (by omega) (by simp only [maxLen] at h63; omega) (growslice_fits (by omega) hby)
          have hge := grownCap_ge w (n + m) c ob.e
          have hml := grownCap_le_maxLen w (n + m) c ob.e h63
          generalize hN : ((cur.toList.take (n * i.size)).toArray ++ us.toArray ++ Builtin.zeroCells z.cells (grownCap w (n + m) c ob.e - (n + m))) = N at hrun
          have hNl : (n + m) * i.size ≤ N.size := by
            rw [← hN]
            simp only [Array.size_append, List.size_toArray, List.length_take, Array.length_toList, hul, Nat.add_mul]
            omega
          have hsize : ∀ K0 sz, some ((N.size, i.size) : Nat × Nat) = some (K0, sz) → 0 + (n + m) * sz ≤ K0 := by
            intro K0 sz h; cases h; omega
          obtain ⟨h3, h4⟩ := hr.app (w' := w.drew.alloc (.cells N ob.e)) (g := w.heap.size) (K := N.size) (ob' := ⟨ob.e, i.size, ob.cs.take (n * i.size) ++ news⟩) (cur := N) hg hb hlo
            ⟨rfl, rfl, rfl, (by show w.heap.size ≤ (w.heap.push _).size; simp), fun j hj _ => Below.heap_alloc w.drew _ j hj⟩ (.inr ⟨Nat.le_refl _, by show w.heap.size < (w.heap.push _).size; simp⟩)
            (by show (w.heap.push _)[_]? = _; simp) (Nat.le_refl _) (by show (ob.cs.take (n * i.size) ++ news).length ≤ _; rw [hlen]; exact hNl)
            (fun j v hj => by
              obtain ⟨u, h5, h6⟩ := hcs j v hj
              have hlt := (List.getElem?_eq_some_iff.1 h5).1
              refine ⟨u, ?_, h6⟩
              rw [← hN]
              have : ((cur.toList.take (n * i.size)).toArray ++ us.toArray) = (cur.toList.take (n * i.size) ++ us).toArray := by simp
              rw [this, Array.getElem?_append_left (by simpa using hlt)]
              simpa using h5)
            (fun j _ => World.cell?_of_block (w := w) (Below.heap_alloc w.drew _ b (hr.blk id b k hb))) h0
          refine ⟨_, .slice (some ⟨w.heap.size, 0, none⟩) (n + m) (grownCap w (n + m) c ob.e), _, ?_, .slice (Bm.set_at _ _ _) (.inl rfl) hge hml ?_, h3, h4⟩
          · simp [execOp, ho, resolve, invoke, builtin, he, he2, hrun]
          · intro K' sz h
            cases h
            rw [← hN]
            have hz1 : z.cells.size = i.size := by rw [← hzs, ← cells_eq]; simp
            have e1 : (cur.toList.take (n * i.size)).length = n * i.size := by rw [List.length_take]; simp; omega
            simp only [Array.size_append, List.size_toArray, e1, hul, size_zeroCells, hz1, ← Nat.add_mul]
            rw [Nat.zero_add]
            exact Nat.mul_le_mul_right _ (by omega)

/-- append(nil, y...). -/
theorem aev_append_nil {t e : TypeId} {x y : Operand} {id2 off2 m : Nat} {ob2 : Ob} {news : List Value} {i : TypeInfo} {z : Value} {ts : Array TypeId} (ho : o.op = .call { callee := .builtin .append, args := #[x, y], argTypes := ts }) (hts : ts = #[t, t])
    (ht : P.underlying t = some (.slice e)) (hi : P.info? e = some i) (hz : i.zero = some z) (hx : ρ x = .slice none 0 0)
    (hy : ρ y = .slice (some ⟨id2, off2, none⟩) m m) (hm0 : 0 < m) (hg2 : H.get id2 = some ob2) (hl : news.length = m * i.size) (hn : ∀ (j : Nat) (v : Value), news[j]? = some v → ob2.cs[off2 + j]? = some v)
    (hzs : (cellsOf z).length = i.size) (hby : m * i.bytes ≤ 140737488355328) (h63 : m ≤ maxLen) (h0 : 0 < i.size) :
    aev P o ρ H (.slice (some ⟨H.nxt, 0, none⟩) m m) (H.new ⟨e, i.size, news⟩) :=
  aev_intro fun B β a w hxs hr => by
    have g1 := hxs x (by rw [ho]; simp [Op.operands, Call.operands])
    have g2 := hxs y (by rw [ho]; simp [Op.operands, Call.operands])
    rw [hx] at g1
    rw [hy] at g2
    subst hts
    have he := VR.still_eq rfl g1
    generalize he2 : a.eval y = u2 at g2
    cases g2 with
    | slice hb2 hof2 hlc2 hm2 hk2 =>
      rename_i off2' b2 k2 c2
      obtain rfl : off2' = off2 := by omega
      obtain ⟨us, u1, u2, u3⟩ := hr.read hg2 hb2 news hn
      have hul : us.length = m * i.size := by rw [u1, hl]
      have hrun := run_append_nil (P := P) w t o.type e i z ht hi hz ⟨b2, off2', none⟩ m c2 us hul u2 hm0 (by simp only [maxLen] at h63; omega) (by omega)
      have hge := grownCap_ge w m 0 e
      have hml := grownCap_le_maxLen w m 0 e h63
      generalize hN : (us.toArray ++ Builtin.zeroCells z.cells (grownCap w m 0 e - m)) = N at hrun
      have hNl : m * i.size ≤ N.size := by
        rw [← hN]
        simp only [Array.size_append, List.size_toArray, hul]
        omega
      obtain ⟨h3, h4⟩ := hr.new_of (w' := w.drew.alloc (.cells N e)) (g := w.heap.size) (K := N.size) ⟨e, i.size, news⟩ h0 (cur := N)
        ⟨rfl, rfl, rfl, (by show w.heap.size ≤ (w.heap.push _).size; simp), fun j hj _ => Below.heap_alloc w.drew _ j hj⟩ (Nat.le_refl _)
        (by show (w.heap.push _)[_]? = _; simp) (Nat.le_refl _) (by show news.length ≤ _; rw [hl]; exact hNl)
        (fun j v hj => by
          obtain ⟨u, h5, h6⟩ := u3 j v hj
          have hlt := (List.getElem?_eq_some_iff.1 h5).1
          refine ⟨u, ?_, h6⟩
          rw [← hN, Array.getElem?_append_left (by simpa using hlt)]
          simpa using h5)
      refine ⟨_, .slice (some ⟨w.heap.size, 0, none⟩) m (grownCap w m 0 e), _, ?_, .slice (Bm.set_at _ _ _) (.inl rfl) hge hml ?_, h3, h4⟩
      · simp [execOp, ho, resolve, invoke, builtin, he, he2, hrun]
      · intro K' sz h
        cases h
        rw [← hN]
        have hz1 : z.cells.size = i.size := by rw [← hzs, ← cells_eq]; simp
        simp only [Array.size_append, List.size_toArray, hul, size_zeroCells, hz1, ← Nat.add_mul]
        rw [Nat.zero_add]
        exact Nat.mul_le_mul_right _ (by omega)

/-- append(x, y...), y of no element: x. -/
theorem aev_append_none {t e : TypeId} {x y : Operand} {q : Option Addr} {i : TypeInfo} {ts : Array TypeId} (ho : o.op = .call { callee := .builtin .append, args := #[x, y], argTypes := ts }) (hts : ts = #[t, t])
    (ht : P.underlying t = some (.slice e)) (hi : P.info? e = some i) {p : Option Addr} {n : Nat} (hx : ρ x = .slice p n n) (hy : ρ y = .slice q 0 0) :
    aev P o ρ H (.slice p n n) H :=
  aev_pure fun β a hxs => by
    have g1 := hxs x (by rw [ho]; simp [Op.operands, Call.operands])
    have g2 := hxs y (by rw [ho]; simp [Op.operands, Call.operands])
    rw [hx] at g1
    rw [hy] at g2
    subst hts
    refine ⟨a.eval x, g1, fun w => ?_⟩
    generalize he : a.eval x = u at g1
    generalize he2 : a.eval y = u2 at g2
    obtain ⟨p1, c1, e1, hlc⟩ : ∃ p1 c1, u = .slice p1 n c1 ∧ n ≤ c1 := by
      cases g1 with
      | nilslice => exact ⟨none, 0, rfl, Nat.le_refl _⟩
      | emp a1 c1 hm1 => exact ⟨_, _, rfl, Nat.zero_le _⟩
      | slice hb hof hlc hm hk => exact ⟨_, _, rfl, hlc⟩
    obtain ⟨p2, c2, e2⟩ : ∃ p2 c2, u2 = .slice p2 0 c2 := by
      cases g2 with
      | nilslice => exact ⟨none, 0, rfl⟩
      | emp a1 c1 hm1 => exact ⟨_, _, rfl⟩
      | slice hb hof hlc hm hk => exact ⟨_, _, rfl⟩
    subst e1 e2
    have hnil : p1 = none → c1 = 0 := fun e => by subst e; cases g1; rfl
    cases p1 with
    | none =>
      have hc0 := hnil rfl
      subst hc0
      have hn0 : n = 0 := by omega
      subst hn0
      cases p2 <;> simp [execOp, ho, resolve, invoke, builtin, he, he2, Builtin.append_, run_underlying ht, sizeOf, typeInfo, hi, Builtin.lenOf, Builtin.firstCells, loadCells, loadCellsFrom, storeCells]
    | some q1 =>
      cases p2 <;> simp [execOp, ho, resolve, invoke, builtin, he, he2, Builtin.append_, run_underlying ht, sizeOf, typeInfo, hi, Builtin.lenOf, Builtin.firstCells, loadCells, loadCellsFrom, storeCells, hlc]

/-- The cells of n zero values. -/
def zrow (zs : List Value) (n : Nat) : List Value := (List.range (n * zs.length)).map fun j => zs.getD (j % zs.length) undef
theorem zrow_length (zs : List Value) (n : Nat) : (zrow zs n).length = n * zs.length := by simp [zrow]
theorem zrow_one (z : Value) (n : Nat) : zrow [z] n = List.replicate n z := by
  apply List.ext_getElem?
  intro j
  simp only [zrow, List.length_singleton, Nat.mul_one, Nat.mod_one]
  by_cases h : j < n
  · simp [h]
  · simp [h]

theorem anew_make {t e : TypeId} {x y : Operand} {k1 k2 : IntKind} {n : Nat} {i : TypeInfo} {z : Value} (ho : o.op = .makeSlice t x y) (ht : P.underlying t = some (.slice e)) (hi : P.info? e = some i) (hz : i.zero = some z)
    (hzs : (cellsOf z).length = i.size) (hst : (cellsOf z).all Value.still = true) (hx : ρ x = .int k1 n) (hy : ρ y = .int k2 n) (hn : n * i.size ≤ 16777216) (hby : i.bytes * n ≤ 281474976710656) (h63 : n ≤ maxLen) (h0 : 0 < i.size) :
    anew P o ρ ⟨e, i.size, zrow (cellsOf z) n⟩ (fun id => .slice (some ⟨id, 0, none⟩) n n) := by
    refine ⟨h0, ?_⟩
    intro β a w hxs
    have g1 := hxs x (by rw [ho]; simp [Op.operands])
    have g2 := hxs y (by rw [ho]; simp [Op.operands])
    rw [hx] at g1
    rw [hy] at g2
    have he := VR.still_eq rfl g1
    have he2 := VR.still_eq rfl g2
    obtain ⟨w', hrun, hown, hgr⟩ := run_makeSlice_full (P := P) w w.heap.size t e i z i.size ht hi hz rfl k1 k2 n hn hby h63 (Nat.le_refl _)
    rcases hown.2 with ⟨h, _⟩ | ⟨g, cap, cur, hv, hbg, hg, hnc, hcm, hcs, htake⟩
    · cases h
    · cases hv
      have hsz : cur.toList.length = n * i.size := by simpa using hcs
      have hcur : cur.toList = (madeCells z.cells (n * i.size)).toList := by rw [← htake, List.take_of_length_le (by omega)]
      have hzr : ∀ (j : Nat) (v : Value), (zrow (cellsOf z) n)[j]? = some v → ∃ u, cur[j]? = some u ∧ VR β v u := by
        intro j v hj
        have hlt : j < n * i.size := by
          have := (List.getElem?_eq_some_iff.1 hj).1
          rwa [zrow_length, hzs] at this
        have hpos : 0 < i.size := by
          rcases Nat.eq_zero_or_pos i.size with h0 | h0
          · rw [h0] at hlt; simp at hlt
          · exact h0
        have hz1 : z.cells.size = i.size := by rw [← hzs, ← cells_eq]; simp
        have hmod : j % i.size < i.size := Nat.mod_lt _ hpos
        have e1 : (zrow (cellsOf z) n)[j]? = some ((cellsOf z).getD (j % (cellsOf z).length) undef) := by
          unfold zrow
          simp [hzs, hlt]
        rw [e1] at hj
        injection hj with hj
        have e2 : cur[j]? = some (z.cells[j % z.cells.size]!) := by
          have : cur.toList[j]? = some (z.cells[j % z.cells.size]!) := by
            rw [hcur]; simp [madeCells, hlt]
          simpa using this
        refine ⟨_, e2, ?_⟩
        have e3 : (cellsOf z)[j % i.size]? = some v := by
          rw [← hj, hzs, List.getD_eq_getElem?_getD, List.getElem?_eq_getElem (by omega)]; rfl
        have e4 : z.cells[j % z.cells.size]! = v := by
          rw [← cells_eq] at e3
          have e5 : z.cells[j % i.size]? = some v := by simpa using e3
          rw [hz1]
          simp [getElem!_def, e5]
        rw [e4]
        exact known_list hst _ β v e3
      refine ⟨.slice (some ⟨w.heap.size, 0, none⟩) n n, w', w.heap.size, cur.size, cur, ?_, hgr, Nat.le_refl _, hg, Nat.le_refl _, ?_, hzr, fun β' id h => .slice h (.inl rfl) (Nat.le_refl _) h63 fun K sz h' => ?_⟩
      · simp [execOp, ho, he, he2, hrun]
      · show (zrow (cellsOf z) n).length ≤ _
        rw [zrow_length, hzs]; simp at hsz; omega
      · cases h'
        show 0 + n * i.size ≤ cur.size
        rw [hcs]; omega

end
end Go.Proofs.Ytefmjpbmdoebaaa
