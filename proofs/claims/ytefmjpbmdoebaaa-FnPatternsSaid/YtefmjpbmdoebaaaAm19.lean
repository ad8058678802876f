/- The abstract machine, part 19: structs in memory. -/
import Derived.Test.YtefmjpbmdoebaaaAm18
set_option linter.unusedVariables false
set_option linter.unusedSimpArgs false
namespace Go.Proofs.Ytefmjpbmdoebaaa
open Go Go.RowKit

/-- A pointer to a row: its cells. -/
def Pt (H : Hp) (v : Value) (cs : List Value) : Prop := ∃ id ob, v = .pointer (some ⟨id, 0, none⟩) ∧ H.get id = some ob ∧ ob.cs = cs
/-- A pointer to a row of the call's own, made since k. -/
def Po (k : Nat) (H : Hp) (v : Value) (cs : List Value) : Prop := ∃ id ob, v = .pointer (some ⟨id, 0, none⟩) ∧ H.get id = some ob ∧ ob.cs = cs ∧ H.own id = true ∧ k ≤ H.root id

section
variable {H H' H0 : Hp} {v u : Value} {cs : List Value} {k r : Nat}

theorem Po.pt (h : Po k H v cs) : Pt H v cs := let ⟨id, ob, h1, h2, h3, _⟩ := h; ⟨id, ob, h1, h2, h3⟩
theorem Pt.calm (h : Pt H v cs) (hc : Calm H H') : Pt H' v cs := let ⟨id, ob, h1, h2, h3⟩ := h; ⟨id, ob, h1, (hc.2 id (Hp.lt h2)).1.trans h2, h3⟩
theorem Po.calm (h : Po k H v cs) (hc : Calm H H') : Po k H' v cs := by
  obtain ⟨id, ob, h1, h2, h3, h4, h5⟩ := h
  obtain ⟨e1, e2, e3⟩ := hc.2 id (Hp.lt h2)
  exact ⟨id, ob, h1, e1.trans h2, h3, e2.trans h4, by rw [e3]; exact h5⟩
theorem Pt.kp (h : Pt H v cs) (hk : Kp H u H') : Pt H' v cs := let ⟨id, ob, h1, h2, h3⟩ := h; ⟨id, ob, h1, (hk.2 id (Hp.lt h2)).1.trans h2, h3⟩
theorem Po.kp (h : Po k H v cs) (hk : Kp H u H') (hp : Ap v u) : Po k H' v cs := by
  obtain ⟨id, ob, h1, h2, h3, h4, h5⟩ := h
  obtain ⟨e1, e2, e3⟩ := hk.2 id (Hp.lt h2)
  exact ⟨id, ob, h1, e1.trans h2, h3, (e3 (hp id (by rw [h1]; rfl))).trans h4, by rw [e2]; exact h5⟩
theorem Pt.live (h : Pt H v cs) : Live H v := by
  obtain ⟨id, ob, h1, h2, h3⟩ := h
  intro i hi
  rw [h1] at hi; cases hi; exact Hp.lt h2
theorem Po.rt (h : Po k H v cs) : ∃ r, k ≤ r ∧ Rt H v r := by
  obtain ⟨id, ob, h1, h2, h3, h4, h5⟩ := h
  exact ⟨_, h5, id, by rw [h1]; rfl, Hp.lt h2, h4, rfl⟩

end

/-- The field f of the struct type s begins at the cell off. -/
def fldOK (P : Program) (s f off : Nat) : Bool :=
  match P.underlying s with
  | some (.struct fs) =>
    match fs[f]? with
    | some fl => fl.offset == off && (match P.info? fl.type with | some i => !(i.size == 0) | none => false)
    | none => false
  | _ => false

theorem fldOK_at {P : Program} {s f off : Nat} (h : fldOK P s f off = true) : ∃ fs fl i, P.underlying s = some (.struct fs) ∧ fs[f]? = some fl ∧ fl.offset = off ∧ P.info? fl.type = some i ∧ i.size ≠ 0 := by
  unfold fldOK at h
  split at h
  · rename_i fs hs
    split at h
    · rename_i fl hf
      rw [Bool.and_eq_true] at h
      obtain ⟨h1, h2⟩ := h
      split at h2
      · rename_i i hi
        exact ⟨fs, fl, i, hs, hf, by simpa using h1, hi, by simpa using h2⟩
      · cases h2
    · cases h
  · cases h

section
variable {P : Program} {fl : Bool} {all : Array Oper} {rest : List Oper} {n : Nat} {T : Nat → Value} {H H' : Hp} {K : St → Prop} {d d1 d2 : Nat} {ty ty1 ty2 : TypeId} {ps ps1 ps2 : String} {af af1 af2 : Array Edge} {v : Value} {x y z : Operand} {cs : List Value} {k r : Nat}

/-- A value is laid in memory. -/
theorem Ops.box (k : Nat) {t : TypeId} (hk : k ≤ H.nxt) (hn : Value.known (rd T x) = true) (hc : cellsOf (rd T x) = cs) (h0 : 0 < cs.length)
    (kk : ∀ v' H', Po k H' v' cs → Calm H H' → (∀ u, Live H u → Ap u v') → Ops P fl all rest ⟨n, up T d v', H'⟩ K) : Ops P fl all (⟨some d, .box t x, ty, ps, af, none⟩ :: rest) ⟨n, T, H⟩ K := by
  subst hc
  refine .make_ rfl (anew_box rfl hn h0) ?_
  refine kk _ _ ⟨H.nxt, _, rfl, Hp.new_get _ _, rfl, Hp.new_own _ _, by rw [Hp.new_root]; exact hk⟩ (Calm.new _ _) fun u hu i hi h => ?_
  have := hu i hi
  injection h with h
  have h' : H.nxt = i := h
  omega

/-- A field of one cell, read. -/
theorem Ops.fld (off : Nat) {s f te : TypeId} (h : Pt H (rd T x) cs) (hs : fldOK P s f off = true) (hte : agT P te false = true) (hv : cs[off]? = some v) (kk : ∀ p, Ops P fl all rest ⟨n, up (up T d1 p) d2 v, H⟩ K) :
    Ops P fl all (⟨some d1, .fieldAddr s x f, ty1, ps1, af1, none⟩ :: ⟨some d2, .load te (.tmp d1), ty2, ps2, af2, none⟩ :: rest) ⟨n, T, H⟩ K := by
  obtain ⟨fs, fl', i, h1, h2, h3, h4, h5⟩ := fldOK_at hs
  obtain ⟨dd, h6, h7⟩ := agT_at hte
  obtain ⟨id, ob, e1, e2, e3⟩ := h
  refine .go (v := .pointer (some ⟨id, 0 + fl'.offset, none⟩)) rfl (fun _ => aev_fieldAddr rfl h1 h2 h4 h5 e1) ?_
  have hp : rd (up T d1 (.pointer (some ⟨id, 0 + fl'.offset, none⟩))) (.tmp d1) = .pointer (some ⟨id, 0 + fl'.offset, none⟩) := if_pos rfl
  exact .get rfl e2 (mention (by simp [Op.operands]) hp) (fun _ hg => aev_load rfl h6 h7 hp hg (by rw [Nat.zero_add, h3, e3]; exact hv)) (kk _)

/-- Is the type's size n cells? -/
def szT (P : Program) (t n : Nat) : Bool := match P.info? t with | some i => i.size == n | none => false
theorem szT_at {t m : Nat} (h : szT P t m = true) : ∃ i, P.info? t = some i ∧ i.size = m := by
  unfold szT at h
  split at h
  · rename_i i hi; exact ⟨i, hi, by simpa using h⟩
  · cases h

/-- new(T) -/
theorem Ops.alloc (k : Nat) {t : TypeId} {z0 : Value} (hk : k ≤ H.nxt) (hz : (P.info? t).bind (·.zero) = some z0) (hst : (cellsOf z0).all Value.still = true) (h0 : 0 < (cellsOf z0).length)
    (kk : ∀ v' H', Po k H' v' (cellsOf z0) → Calm H H' → (∀ u, Live H u → Ap u v') → Ops P fl all rest ⟨n, up T d v', H'⟩ K) : Ops P fl all (⟨some d, .alloc t, ty, ps, af, none⟩ :: rest) ⟨n, T, H⟩ K := by
  cases hi : P.info? t with
  | none => rw [hi] at hz; cases hz
  | some i =>
    rw [hi] at hz
    refine .make_ rfl (anew_alloc rfl hi hz hst h0) ?_
    refine kk _ _ ⟨H.nxt, _, rfl, Hp.new_get _ _, rfl, Hp.new_own _ _, by rw [Hp.new_root]; exact hk⟩ (Calm.new _ _) fun u hu i hi h => ?_
    have := hu i hi
    injection h with h
    have h' : H.nxt = i := h
    omega

/-- A field of one cell, written. -/
theorem Ops.setf (off : Nat) {s f te : TypeId} {w : Value} (h : Po k H (rd T x) cs) (hr : Rt H (rd T x) r) (hs : fldOK P s f off = true) (hte : szT P te 1 = true) (hz : rd T z = w) (hzd : z ≠ .tmp d1) (hw : cellsOf w = [w]) (hw1 : Value.one w = true) (hlt : off < cs.length)
    (kk : ∀ p H', Mod r H H' → Po k H' (rd T x) (cs.set off w) → Ops P fl all rest ⟨n, up T d1 p, H'⟩ K) :
    Ops P fl all (⟨some d1, .fieldAddr s x f, ty1, ps1, af1, none⟩ :: ⟨none, .store te (.tmp d1) z, ty2, ps2, af2, none⟩ :: rest) ⟨n, T, H⟩ K := by
  obtain ⟨fs, fl', i, h1, h2, h3, h4, h5⟩ := fldOK_at hs
  obtain ⟨it, h6, h7⟩ := szT_at hte
  obtain ⟨id, ob, e1, e2, e3, e4, e5⟩ := h
  have hroot : H.root id = r := by
    obtain ⟨id', g1, g2, g3, g4⟩ := hr
    rw [e1] at g1
    injection g1 with g1
    have g1' : id = id' := g1
    subst g1'; exact g4
  refine .go (v := .pointer (some ⟨id, 0 + fl'.offset, none⟩)) rfl (fun _ => aev_fieldAddr rfl h1 h2 h4 h5 e1) ?_
  have hrz : rd (up T d1 (.pointer (some ⟨id, 0 + fl'.offset, none⟩))) z = w := by
    rw [← hz]
    cases z with
    | tmp q => exact if_neg (fun e => hzd (by rw [e]))
    | _ => rfl
  have hlen : off < ob.cs.length := by rw [e3]; exact hlt
  have hst := aev_store (P := P) (o := ⟨none, .store te (.tmp d1) z, ty2, ps2, af2, none⟩) (ρ := rd (up T d1 (.pointer (some ⟨id, 0 + fl'.offset, none⟩)))) rfl h6 (by rw [hrz, h7, hw]; rfl) (by rw [hrz, hw]; simp [hw1]) (by show (if d1 = d1 then _ else _) = _; rw [if_pos rfl]) e2 e4 (by rw [hrz, hw, h3]; simp; omega)
  rw [hrz, hw, h3, Nat.zero_add, splice_one hlen] at hst
  rw [h3, Nat.zero_add]
  refine .write0 rfl hst (Nat.le_refl _) ?_
  have hm : Mod r H (H.upd id ⟨ob.e, ob.sz, ob.cs.set off w⟩ (Hp.lt e2)) := by rw [← hroot]; exact Mod.upd (Hp.lt e2)
  exact kk _ _ hm ⟨id, _, e1, Hp.upd_get _ _ _ _, by rw [e3], e4, e5⟩

/-- A whole struct, read. -/
theorem Ops.loadS {s : TypeId} (h : Pt H (rd T x) cs) (hs : agT P s true = true) (hz : szT P s cs.length = true) (kk : Ops P fl all rest ⟨n, up T d (.agg cs.toArray), H⟩ K) : Ops P fl all (⟨some d, .load s x, ty, ps, af, none⟩ :: rest) ⟨n, T, H⟩ K := by
  obtain ⟨dd, h1, h2⟩ := agT_at hs
  obtain ⟨i, h3, h4⟩ := szT_at hz
  obtain ⟨id, ob, e1, e2, e3⟩ := h
  exact .get rfl e2 (mention (by simp [Op.operands]) e1) (fun _ hg => aev_loadN (n := 0) rfl h1 h2 h3 h4 e1 hg (fun j v hj => by rw [Nat.zero_add, e3]; exact hj)) kk

/-- A whole struct, written. -/
theorem Ops.storeS {s : TypeId} {ds : List Value} (h : Po k H (rd T x) cs) (hr : Rt H (rd T x) r) (hy : cellsOf (rd T y) = ds) (hz : szT P s ds.length = true) (hl : ds.length = cs.length) (h1 : ds.all Value.one = true)
    (kk : ∀ H', Mod r H H' → Po k H' (rd T x) ds → Ops P fl all rest ⟨n, T, H'⟩ K) : Ops P fl all (⟨none, .store s x y, ty, ps, af, none⟩ :: rest) ⟨n, T, H⟩ K := by
  obtain ⟨i, h3, h4⟩ := szT_at hz
  obtain ⟨id, ob, e1, e2, e3, e4, e5⟩ := h
  have hroot : H.root id = r := by
    obtain ⟨id', g1, g2, g3, g4⟩ := hr
    rw [e1] at g1
    injection g1 with g1
    have g1' : id = id' := g1
    subst g1'; exact g4
  have hst := aev_store (P := P) (o := ⟨none, .store s x y, ty, ps, af, none⟩) (ρ := rd T) rfl h3 (by rw [hy, h4]) (by rw [hy]; exact h1) e1 e2 e4 (by rw [hy, e3]; omega)
  rw [hy] at hst
  have hsp : splice ob.cs 0 ds = ds := by
    unfold splice
    rw [e3, List.take_zero, List.nil_append, List.drop_of_length_le (by omega), List.append_nil]
  rw [hsp] at hst
  refine .write0 rfl hst (Nat.le_refl _) ?_
  have hm : Mod r H (H.upd id ⟨ob.e, ob.sz, ds⟩ (Hp.lt e2)) := by rw [← hroot]; exact Mod.upd (Hp.lt e2)
  exact kk _ hm ⟨id, _, e1, Hp.upd_get _ _ _ _, rfl, e4, e5⟩

/-- x := v of a struct that lies in memory. -/
theorem Ops.var (k : Nat) {s : TypeId} {ds : List Value} {z0 : Value} (hk : k ≤ H.nxt) (hz0 : (P.info? s).bind (·.zero) = some z0) (hst : (cellsOf z0).all Value.still = true) (h0 : 0 < (cellsOf z0).length) (hy : cellsOf (rd T y) = ds) (hyd : y ≠ .tmp d) (hz : szT P s ds.length = true) (hl : ds.length = (cellsOf z0).length) (h1 : ds.all Value.one = true)
    (kk : ∀ v' H', Po k H' v' ds → Calm H H' → (∀ u, Live H u → Ap u v') → Ops P fl all rest ⟨n, up T d v', H'⟩ K) : Ops P fl all (⟨some d, .alloc s, ty, ps, af, none⟩ :: ⟨none, .store s (.tmp d) y, ty1, ps1, af1, none⟩ :: rest) ⟨n, T, H⟩ K := by
  refine Ops.alloc H.nxt (Nat.le_refl _) hz0 hst h0 fun v' H1 o1 c1 a1 => ?_
  obtain ⟨r, hr, t1⟩ := o1.rt
  have hrx : rd (up T d v') (.tmp d) = v' := if_pos rfl
  have hry : rd (up T d v') y = rd T y := by
    cases y with
    | tmp q => exact if_neg (fun e => hyd (by rw [e]))
    | _ => rfl
  refine Ops.storeS (ds := ds) (k := H.nxt) (r := r) (by rw [hrx]; exact o1) (by rw [hrx]; exact t1) (by rw [hry]; exact hy) hz hl h1 fun H2 m2 o2 => ?_
  rw [hrx] at o2
  obtain ⟨id, ob, e1, e2, e3, e4, e5⟩ := o2
  exact kk v' H2 ⟨id, ob, e1, e2, e3, e4, Nat.le_trans hk e5⟩ (m2.calm c1 hr) a1

/-- A result that lies in memory: a struct. -/
theorem ResK.cells {t a : Nat} {rvs : List ResultVar} {K : List Value → Prop} (ha : a.blt n = true) (h : Pt H (T a) cs) (hs : agT P t true = true) (hz : szT P t cs.length = true) (k : ResK P ⟨n, T, H⟩ rvs (fun vs => K (.agg cs.toArray :: vs))) : ResK P ⟨n, T, H⟩ (.cell a t :: rvs) K := by
  obtain ⟨dd, h1, h2⟩ := agT_at hs
  obtain ⟨i, h3, h4⟩ := szT_at hz
  obtain ⟨id, ob, e1, e2, e3⟩ := h
  exact .cons (.cells (by simpa using ha) e1 h1 h2 h3 h4 e2 (fun j v hj => by rw [Nat.zero_add, e3]; exact hj)) k

end
end Go.Proofs.Ytefmjpbmdoebaaa
