/- The abstract machine, part 13: gathering by append. -/
import Derived.Test.YtefmjpbmdoebaaaAm12
set_option linter.unusedVariables false
set_option linter.unusedSimpArgs false
namespace Go.Proofs.Ytefmjpbmdoebaaa
open Go Go.RowKit

theorem cut_split {cs : List Value} {k n : Nat} (h : (cut cs k n).length = n) (hn : 0 < n) : ∀ j, j < n → cs[k + j]? = (cut cs k n)[j]? := fun j hj => (cut_get hj).symm

theorem cut_append_l {xs ys : List Value} {k n : Nat} (h : k + n ≤ xs.length) : cut (xs ++ ys) k n = cut xs k n := by
  apply List.ext_getElem?
  intro j
  rcases Nat.lt_or_ge j n with hj | hj
  · rw [cut_get hj, cut_get hj, List.getElem?_append_left (by omega)]
  · rw [List.getElem?_eq_none (by unfold cut; rw [List.length_take]; omega), List.getElem?_eq_none (by unfold cut; rw [List.length_take]; omega)]

theorem cut_append_r {xs ys : List Value} {k n : Nat} (h : k = xs.length) : cut (xs ++ ys) k n = cut ys 0 n := by
  subst h; unfold cut; simp

theorem cut_append_rj {xs ys : List Value} {k j n : Nat} (h : k = xs.length + j) : cut (xs ++ ys) k n = cut ys j n := by
  subst h; unfold cut
  rw [List.drop_append]
  have : List.drop (xs.length + j) xs = [] := List.drop_of_length_le (by omega)
  rw [this]; simp

theorem cut_take {cs : List Value} {k n m : Nat} (h : k + n ≤ m) : cut (cs.take m) k n = cut cs k n := by
  apply List.ext_getElem?
  intro j
  rcases Nat.lt_or_ge j n with hj | hj
  · rw [cut_get hj, cut_get hj, List.getElem?_take_of_lt (by omega)]
  · rw [List.getElem?_eq_none (by unfold cut; rw [List.length_take]; omega), List.getElem?_eq_none (by unfold cut; rw [List.length_take]; omega)]

theorem cut_all {cs : List Value} : cut cs 0 cs.length = cs := by unfold cut; simp

/-- The cells of a list, one after the other. -/
def cellsIn {α : Type} (c : Cd α) (H : Hp) (cs : List Value) (l : List α) : Prop := cs.length = l.length * c.sz ∧ ∀ (i : Nat) (a : α), l[i]? = some a → c.ok H (cut cs (i * c.sz) c.sz) a

section
variable {α : Type} {c : Cd α} {H H' H0 : Hp} {v u : Value} {l m : List α} {e k : Nat}

theorem mul_lt_of {i n s : Nat} (h : i < n) : i * s + s ≤ n * s := by
  have := Nat.mul_le_mul_right s (show i + 1 ≤ n by omega)
  rw [Nat.add_mul] at this; omega

theorem cellsIn.append {cs ds : List Value} (h : cellsIn c H cs l) (k : cellsIn c H ds m) : cellsIn c H (cs ++ ds) (l ++ m) := by
  refine ⟨by rw [List.length_append, List.length_append, h.1, k.1, Nat.add_mul], fun i a hi => ?_⟩
  rcases Nat.lt_or_ge i l.length with hl | hl
  · rw [List.getElem?_append_left hl] at hi
    rw [cut_append_l (by rw [h.1]; exact mul_lt_of hl)]
    exact h.2 i a hi
  · rw [List.getElem?_append_right hl] at hi
    rw [cut_append_rj (j := (i - l.length) * c.sz) (by rw [h.1, ← Nat.add_mul]; congr 1; omega)]
    exact k.2 _ a hi

theorem cellsIn.one {cs : List Value} (h : cellsIn c H cs l) : cs.all Value.one = true := by
  rw [List.all_eq_true]
  intro x hx
  obtain ⟨j, hj, rfl⟩ := List.mem_iff_getElem.1 hx
  have hp := c.pos
  have hj2 : j / c.sz < l.length := by
    rw [Nat.div_lt_iff_lt_mul hp]; have := h.1; omega
  have h1 := c.one (h.2 _ _ (List.getElem?_eq_getElem hj2))
  rw [List.all_eq_true] at h1
  refine h1 _ ?_
  have h2 : (cut cs (j / c.sz * c.sz) c.sz)[j % c.sz]? = some cs[j] := by
    rw [cut_get (Nat.mod_lt _ hp), Nat.mul_comm, Nat.div_add_mod]
    exact List.getElem?_eq_getElem hj
  exact List.mem_of_getElem? h2

theorem cellsIn.calm {cs : List Value} (h : cellsIn c H cs l) (hc : Calm H H') : cellsIn c H' cs l := ⟨h.1, fun i a hi => c.calm hc (h.2 i a hi)⟩

theorem cellsIn.sing {a : α} {cs : List Value} (h : c.ok H cs a) : cellsIn c H cs [a] := by
  have hl := c.len h
  refine ⟨by simp [hl], fun i b hi => ?_⟩
  cases i with
  | zero =>
    simp at hi; subst hi
    rw [Nat.zero_mul, ← hl, cut_all]; exact h
  | succ i => simp at hi

/-- The cells that a slice stands for. -/
theorem Sl.cells (h : Sl c H v l) (hne : l ≠ []) : ∃ id off ob, v = .slice (some ⟨id, off, none⟩) l.length l.length ∧ H.get id = some ob ∧ (ob.sz = c.sz ∨ ob.sz = 0) ∧ cellsIn c H (cut ob.cs off (l.length * c.sz)) l ∧ ∀ (j : Nat) (x : Value), (cut ob.cs off (l.length * c.sz))[j]? = some x → ob.cs[off + j]? = some x := by
  rcases h with ⟨h, _⟩ | ⟨id, off, ob, h1, h2, h3, h4, h5⟩
  · exact absurd h hne
  · have hpos : 0 < l.length := List.length_pos_iff.2 hne
    have hlast : l[l.length - 1]? = some l[l.length - 1] := List.getElem?_eq_getElem (by omega)
    have hk := cut_len (c.len (h5 _ _ hlast)) c.pos
    have hm : (l.length - 1) * c.sz + c.sz = l.length * c.sz := by rw [← Nat.succ_mul]; congr 1; omega
    have hcl : (cut ob.cs off (l.length * c.sz)).length = l.length * c.sz := by
      unfold cut; rw [List.length_take, List.length_drop]; omega
    refine ⟨id, off, ob, h1, h2, h3, ⟨hcl, fun i a hi => ?_⟩, fun j x hj => ?_⟩
    · have hil : i < l.length := (List.getElem?_eq_some_iff.1 hi).1
      have := mul_lt_of (s := c.sz) hil
      have e1 : cut (cut ob.cs off (l.length * c.sz)) (i * c.sz) c.sz = cut ob.cs (off + i * c.sz) c.sz := by
        apply List.ext_getElem?
        intro j
        rcases Nat.lt_or_ge j c.sz with hj | hj
        · rw [cut_get hj, cut_get (by omega), cut_get hj]; congr 1; omega
        · rw [List.getElem?_eq_none (by unfold cut; rw [List.length_take]; omega), List.getElem?_eq_none (by unfold cut; rw [List.length_take]; omega)]
      rw [e1]; exact h5 i a hi
    · have : j < l.length * c.sz := by have := (List.getElem?_eq_some_iff.1 hj).1; omega
      rw [cut_get this] at hj; exact hj

theorem Ac.cells (h : Ac c e k H v l) (hne : v ≠ nilS) : ∃ id ob, v = .slice (some ⟨id, 0, none⟩) l.length l.length ∧ H.get id = some ob ∧ H.own id = true ∧ k ≤ H.root id ∧ ob.e = e ∧ ob.sz = c.sz ∧ cellsIn c H ob.cs l := by
  rcases h with ⟨h, _⟩ | ⟨id, ob, h1, h2, h3, h4, h5, h6, h7, h8, h9⟩
  · exact absurd h hne
  · exact ⟨id, ob, h1, h2, h3, h4, h5, h6, h8, h9⟩

theorem Ac.mk {id : Nat} {ob : Ob} (h1 : v = .slice (some ⟨id, 0, none⟩) l.length l.length) (h2 : H.get id = some ob) (h3 : H.own id = true) (h4 : k ≤ H.root id) (h5 : ob.e = e) (h6 : ob.sz = c.sz) (h7 : l.length ≤ maxLen) (h8 : cellsIn c H ob.cs l) : Ac c e k H v l :=
  .inr ⟨id, ob, h1, h2, h3, h4, h5, h6, h7, h8.1, h8.2⟩

/-- A row of the call's own, made now. -/
theorem Ac.fresh {cs : List Value} (h : cellsIn c H cs l) (hm : l.length ≤ maxLen) (hk : k ≤ H.nxt) : Ac c e k (H.new ⟨e, c.sz, cs⟩) (.slice (some ⟨H.nxt, 0, none⟩) l.length l.length) l :=
  .mk rfl (Hp.new_get _ _) (Hp.new_own _ _) (by rw [Hp.new_root]; exact hk) rfl rfl hm (h.calm (Calm.new _ _))

end

theorem Calm.ge' {H H' : Hp} (h : Calm H H') : GE H H' := ⟨h.1, fun id hi => .inl (h.2 id hi).1⟩

/-- What append leaves of what was: H' behind, v' the new slice, v the old one. -/
structure Grew (k : Nat) (H : Hp) (v : Value) (H' : Hp) (v' : Value) : Prop where
  calm : ∀ H0, H0.nxt ≤ k → Calm H0 H → Calm H0 H'
  kp : Kp H v H'
  ap : ∀ u, Live H u → Ap u v → Ap u v'
  live : Live H v → Live H' v'

section
variable {α : Type} {c : Cd α} {H H' H0 : Hp} {v v' u : Value} {l : List α} {e k k' : Nat}

/-- What has only been kept for reading is stable when own rows may lose their right to grow. -/
structure Rd (c : Cd α) : Prop where
  kp : ∀ {H v H' cs a}, Kp H v H' → c.ok H cs a → c.ok H' cs a

theorem Sl.kp (hc : Rd c) (h : Sl c H u l) (hk : Kp H v H') : Sl c H' u l := by
  rcases h with ⟨h, p, h1, h2⟩ | ⟨id, off, ob, h1, h2, h3, h4, h5⟩
  · exact .inl ⟨h, p, h1, fun a ha hs => Nat.lt_of_lt_of_le (h2 a ha hs) hk.1⟩
  · exact .inr ⟨id, off, ob, h1, (hk.2 id (Hp.lt h2)).1.trans h2, h3, h4, fun i a hi => hc.kp hk (h5 i a hi)⟩

theorem Ac.kp (hc : Rd c) (h : Ac c e k H u l) (hk : Kp H v H') (ha : Ap u v) : Ac c e k H' u l := by
  rcases h with h | ⟨id, ob, h1, h2, h3, h4, h5, h6, h7, h8, h9⟩
  · exact .inl h
  · obtain ⟨e1, e2, e3⟩ := hk.2 id (Hp.lt h2)
    have hne : idOf v ≠ some id := ha id (by subst h1; rfl)
    exact .inr ⟨id, ob, h1, e1.trans h2, (e3 hne).trans h3, by rw [e2]; exact h4, h5, h6, h7, h8, fun i a hi => hc.kp hk (h9 i a hi)⟩

theorem Live.kp (h : Live H u) (hk : Kp H v H') : Live H' u := fun i hi => Nat.lt_of_lt_of_le (h i hi) hk.1

theorem rdI : Rd cI := ⟨fun _ h => h⟩
theorem rdB : Rd cB := ⟨fun _ h => h⟩
theorem rdBo : Rd cBo := ⟨fun _ h => h⟩

theorem Grew.new {ob : Ob} {n : Nat} (hk : k ≤ H.nxt) : Grew k H nilS (H.new ob) (.slice (some ⟨H.nxt, 0, none⟩) n n) :=
  ⟨fun H0 _ h => h.trans (Calm.new _ _), Kp.of_calm (Calm.new _ _), fun u hu _ i hi h => by
    have := hu i hi
    injection h with h
    have h' : H.nxt = i := h
    omega, fun _ i hi => by
    injection hi with hi
    have hi' : H.nxt = i := hi
    show i < H.nxt + 1
    omega⟩

theorem Grew.app {id n n' : Nat} {ob : Ob} (hid : id < H.nxt) (ho : H.own id = true) (hk : k ≤ H.root id) : Grew k H (.slice (some ⟨id, 0, none⟩) n n) (H.app id ob hid ho) (.slice (some ⟨H.nxt, 0, none⟩) n' n') := by
  refine ⟨fun H0 h0 h => ⟨Nat.le_succ_of_le h.1, fun i hi => ?_⟩, ⟨Nat.le_succ _, fun i hi => ⟨Hp.app_lt hi, Hp.app_root_lt hi, fun hne => ?_⟩⟩, fun u hu _ i hi h => ?_, fun _ i hi => ?_⟩
  · have h1 := H.rt id hid
    have h2 : i < H.nxt := Nat.lt_of_lt_of_le hi h.1
    obtain ⟨e1, e2, e3⟩ := h.2 i hi
    rw [Hp.app_lt h2, Hp.app_own_lt h2 (by omega), Hp.app_root_lt h2]
    exact ⟨e1, e2, e3⟩
  · exact Hp.app_own_lt hi (fun e => hne (by rw [e]; rfl))
  · have := hu i hi
    injection h with h
    have h' : H.nxt = i := h
    omega
  · injection hi with hi
    have hi' : H.nxt = i := hi
    show i < H.nxt + 1
    omega

/-- Another slice of the call's own, behind an append. -/
theorem Grew.two {k' e' : Nat} (h : Grew k H v H' v') (hc : Rd c) (ha : Ac c e' k' H u l) (hp : Ap u v) : Ac c e' k' H' u l ∧ Ap u v' := ⟨ha.kp hc h.kp hp, h.ap u ha.live hp⟩
theorem Grew.sl (h : Grew k H v H' v') (hc : Rd c) (ha : Sl c H u l) : Sl c H' u l := ha.kp hc h.kp
theorem Grew.refl : Grew k H v H v := ⟨fun _ _ h => h, Kp.of_calm (Calm.refl _), fun _ _ h => h, fun h => h⟩

end

section
variable {P : Program} {fl : Bool} {all : Array Oper} {rest : List Oper} {n : Nat} {T : Nat → Value} {H H' : Hp} {K : St → Prop} {d d1 d2 : Nat} {ty ty1 ty2 : TypeId} {ps ps1 ps2 : String} {af af1 af2 : Array Edge} {v : Value} {x y : Operand} {α : Type} {c : Cd α} {l m : List α} {e k : Nat}

/-- []T{} -/
theorem Ops.lit0 {t : TypeId} (c : Cd α) (e k : Nat) (ht : slA P t c.sz = true) (he : P.elem t = e) (hk : k ≤ H.nxt)
    (kk : ∀ v' H', Ac c e k H' v' [] → Calm H H' → (∀ u, Live H u → Ap u v') → Ops P fl all rest ⟨n, up T d v', H'⟩ K) :
    Ops P fl all (⟨some d, .buildSlice t 0 #[], ty, ps, af, none⟩ :: rest) ⟨n, T, H⟩ K := by
  subst he
  obtain ⟨i, z, h1, h2, h3, h4, h5, h6, h7⟩ := slA_at ht
  refine .make_ rfl (anew_lit0 rfl rfl h1 h2 (by rw [h3]; exact c.pos)) ?_
  rw [h3]
  refine kk _ _ ?_ (Calm.new _ _) fun u hu i hi h => ?_
  · exact Ac.fresh (l := []) ⟨by simp, fun i a hi => by simp at hi⟩ (by simp) hk
  · have := hu i hi
    injection h with h
    have h' : H.nxt = i := h
    omega

/-- append(x, y...) -/
theorem Ops.cat {t : TypeId} {o : Oper} (ho : o = ⟨some d, .call { callee := .builtin .append, args := #[x, y], argTypes := #[t, t] }, ty, ps, af, none⟩) (hc : Rd c) (hx : Ac c e k H (rd T x) l) (hy : Sl c H (rd T y) m) (hk : k ≤ H.nxt) (ht : slA P t c.sz = true) (he : P.elem t = e) (hlen : l.length + m.length ≤ 34359738367)
    (kk : ∀ v' H', Ac c e k H' v' (l ++ m) → Grew k H (rd T x) H' v' → Ops P fl all rest ⟨n, up T d v', H'⟩ K) :
    Ops P fl all (o :: rest) ⟨n, T, H⟩ K := by
  subst ho he
  obtain ⟨i, z, h1, h2, h3, h4, h5, h6, h7⟩ := slA_at ht
  have hml : l.length + m.length ≤ maxLen := by simp only [maxLen]; omega
  have hby : ∀ q, q ≤ l.length + m.length → q * i.bytes ≤ 140737488355328 := fun q hq => by
    have := Nat.mul_le_mul (show q ≤ 34359738367 by omega) h4; omega
  by_cases hm : m = []
  · subst hm
    obtain ⟨p, hp⟩ := hx.sl.val
    obtain ⟨q, hq⟩ := hy.val
    refine .chain rfl (aev_append_none (n := l.length) rfl rfl h1 h2 hp hq) (fun _ => GE.refl' H) ?_
    rw [← hp]
    exact kk _ _ (by simpa using hx) Grew.refl
  · obtain ⟨id2, off2, ob2, e1, e2, e3, e4, e5⟩ := hy.cells hm
    have hpos : 0 < m.length := List.length_pos_iff.2 hm
    by_cases hn : rd T x = nilS
    · rw [hn] at kk
      have hl : l = [] := by
        rcases hx with ⟨_, h⟩ | ⟨id, ob, h, _⟩
        · exact h
        · rw [hn] at h; cases h
      subst hl
      refine .chain rfl (aev_append_nil (news := cut ob2.cs off2 (m.length * c.sz)) rfl rfl h1 h2 h5 hn e1 hpos e2 (by rw [h3]; exact e4.1) e5 (by rw [h3]; exact h6) (hby _ (by simp)) (by simpa using hml) (by rw [h3]; exact c.pos)) (fun _ => (Calm.new _ _).ge') ?_
      rw [h3]
      exact kk _ _ (by simpa using Ac.fresh e4 (by simpa using hml) hk) (Grew.new hk)
    · obtain ⟨id, ob, g1, g2, g3, g4, g5, g6, g7⟩ := hx.cells hn
      refine .chain rfl (aev_append (news := cut ob2.cs off2 (m.length * c.sz)) rfl rfl h1 h2 h5 g1 g2 g3 g5 (by rw [g6, h3]) (by rw [h3]; exact g7.1.symm) e1 e2 (by rw [h3]; exact e4.1) e5 e4.one (by rw [h3]; exact h6) (hby _ (Nat.le_refl _)) hml (by rw [h3]; exact c.pos)) (fun _ => ⟨Nat.le_succ _, fun id hid => .inl (Hp.app_lt hid)⟩) ?_
      have hgr := Grew.app (k := k) (n := l.length) (n' := l.length + m.length) (ob := ⟨P.elem t, i.size, ob.cs.take (l.length * i.size) ++ cut ob2.cs off2 (m.length * c.sz)⟩) (Hp.lt g2) g3 g4
      rw [← g1] at hgr
      have hcells : cellsIn c H (ob.cs.take (l.length * i.size) ++ cut ob2.cs off2 (m.length * c.sz)) (l ++ m) := by
        rw [h3, ← g7.1, List.take_length]
        exact g7.append e4
      refine kk _ _ ?_ hgr
      refine Ac.mk (by simp) (Hp.app_get _ _ _ _ _) (Hp.app_own _ _ _ _ _) (by rw [Hp.app_root]; exact g4) rfl (by exact h3) (by simpa using hml) ?_
      exact ⟨hcells.1, fun i a hi => hc.kp hgr.kp (hcells.2 i a hi)⟩

/-- append(x, y) -/
theorem Ops.push {t t1 : TypeId} {a : α} (hc : Rd c) (hx : Ac c e k H (rd T x) l) (hy : c.ok H (cellsOf (rd T y)) a) (hne : x ≠ .tmp d1) (hk : k ≤ H.nxt) (ht : slA P t c.sz = true) (ht1 : slA P t1 c.sz = true) (he : P.elem t = e) (hlen : l.length + 1 ≤ 34359738367) (hsz : c.sz ≤ 4096)
    (kk : ∀ p v' H', Ac c e k H' v' (l ++ [a]) → Grew k H (rd T x) H' v' → Ops P fl all rest ⟨n, up (up T d1 p) d2 v', H'⟩ K) :
    Ops P fl all (⟨some d1, .buildSlice t1 1 #[(0, y)], ty1, ps1, af1, none⟩ :: ⟨some d2, .call { callee := .builtin .append, args := #[x, .tmp d1], argTypes := #[t, t] }, ty2, ps2, af2, none⟩ :: rest) ⟨n, T, H⟩ K := by
  obtain ⟨i, z, h1, h2, h3, h4, h5, h6, h7⟩ := slA_at ht1
  have hp := c.pos
  have hcl := c.len hy
  have hon := c.one hy
  have hca := Calm.new H ⟨P.elem t1, c.sz, cellsOf (rd T y)⟩
  refine .make_ (f := fun id => .slice (some ⟨id, 0, none⟩) 1 1) (ob := ⟨P.elem t1, c.sz, cellsOf (rd T y)⟩) rfl ?_ ?_
  · have := (anew_lit (P := P) (o := ⟨some d1, .buildSlice t1 1 #[(0, y)], ty1, ps1, af1, none⟩) (ρ := rd T) (xs := [y]) rfl rfl rfl h1 h2 h5 (by omega) (by omega) (by rw [h3]; omega) (fun w hw => by
      obtain rfl := List.mem_singleton.1 hw
      exact ⟨by rw [h3]; exact hcl, hon⟩))
    simpa [h3] using this
  · have hrx : rd (up T d1 (.slice (some ⟨H.nxt, 0, none⟩) 1 1)) x = rd T x := by
      cases x with
      | tmp j => exact if_neg (fun e => hne (by rw [e]))
      | _ => rfl
    have hry : rd (up T d1 (.slice (some ⟨H.nxt, 0, none⟩) 1 1)) (.tmp d1) = .slice (some ⟨H.nxt, 0, none⟩) 1 1 := if_pos rfl
    have hlv := hx.live
    refine Ops.cat rfl hc (by rw [hrx]; exact hx.calm hca) (by rw [hry]; exact (Ac.fresh (k := 0) (cellsIn.sing hy) (by simp [maxLen]) (Nat.zero_le _)).sl) (Nat.le_succ_of_le hk) ht he (by simpa using hlen) fun v' H' g1 g2 => ?_
    rw [hrx] at g2
    refine kk _ _ _ g1 ⟨fun H0 h0 h => g2.calm H0 h0 (h.trans hca), ⟨Nat.le_trans hca.1 g2.kp.1, fun id hid => ?_⟩, fun u hu ha => g2.ap u (hu.calm hca) ha, fun h => g2.live (h.calm hca)⟩
    obtain ⟨f1, f2, f3⟩ := g2.kp.2 id (Nat.lt_succ_of_lt hid)
    obtain ⟨f4, f5, f6⟩ := hca.2 id hid
    exact ⟨f1.trans f4, f2.trans f6, fun hne => (f3 hne).trans f5⟩

end
end Go.Proofs.Ytefmjpbmdoebaaa
