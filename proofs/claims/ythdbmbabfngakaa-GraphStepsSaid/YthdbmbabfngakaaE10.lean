/- The engine, part 10: slices that are read, rows that are appended to, and what is lent. -/
import Derived.Test.YthdbmbabfngakaaE9
import Derived.Maps.AppendAt
namespace Go.Eng
open Go Go.RowKit
set_option linter.unusedSimpArgs false

/-- What stands at a slice's places, so many cells. -/
def Src (F : PH) (p : Option Addr) (k : Nat) (ys : List Value) : Prop := ys.length = k ∧ (0 < k → ∃ a, p = some a ∧ F.cells a k = some ys)
/-- A slice of n elements of sz cells each, that is read and never turns. -/
def Sl (F : PH) (sz : Nat) (v : Value) (n : Nat) (xs : List Value) : Prop := ∃ p c, v = .slice p n c ∧ n ≤ c ∧ c ≤ maxLen ∧ Src F p (n * sz) xs
/-- A row that is the walk's own to append to. -/
def Row (r : PH) (e : TypeId) (sz : Nat) (v : Value) (xs : List Value) : Prop :=
  (v = .slice none 0 0 ∧ xs = [] ∧ ∀ b, r b = none) ∨
  ∃ g n cap cur, v = .slice (some ⟨g, 0, none⟩) n cap ∧ xs.length = n * sz ∧ r = PH.one g (.cells cur e (0, 0)) ∧ n ≤ cap ∧ cap ≤ maxLen ∧ cur.size = cap * sz ∧ cur.toList.take (n * sz) = xs
theorem Row.nil (e : TypeId) (sz : Nat) : Row PH.emp e sz (.slice none 0 0) [] := .inl ⟨rfl, rfl, fun _ => rfl⟩
theorem Src.mono {F G : PH} {p : Option Addr} {k : Nat} {ys : List Value} (h : Src F p k ys) (hl : F.le G) : Src G p k ys :=
  ⟨h.1, fun hk => let ⟨a, h1, h2⟩ := h.2 hk; ⟨a, h1, hl.cells h2⟩⟩
theorem Sl.mono {F G : PH} {sz : Nat} {v : Value} {n : Nat} {xs : List Value} (h : Sl F sz v n xs) (hl : F.le G) : Sl G sz v n xs :=
  let ⟨p, c, h1, h2, h3, h4⟩ := h; ⟨p, c, h1, h2, h3, h4.mono hl⟩
theorem add_add (a : Addr) (i j : Nat) : (a.add i).add j = a.add (i + j) := by
  unfold Addr.add
  by_cases hi : i = 0 <;> by_cases hj : j = 0 <;> simp [hi, hj, Nat.add_assoc]
theorem cells_mk {F : PH} {a : Addr} : ∀ {n : Nat} {l : List Value}, l.length = n → (∀ j v, l[j]? = some v → F.cell (a.add j) = some v) → F.cells a n = some l
  | 0, l, h, _ => by rw [List.eq_nil_of_length_eq_zero h]; rfl
  | n + 1, l, h, hc => by
    have e : l = l.take n ++ [l[n]'(by omega)] := by
      rw [← List.take_succ_eq_append_getElem (by omega), List.take_of_length_le (by omega)]
    have h1 := cells_mk (F := F) (a := a) (l := l.take n) (n := n) (by simp; omega) (fun j v hj => hc j v (by
      rw [List.getElem?_take] at hj
      split at hj
      · exact hj
      · cases hj))
    have h2 := hc n _ (List.getElem?_eq_getElem (by omega))
    simp only [PH.cells, h1, h2]
    exact congrArg some e.symm
theorem cells_sub {F : PH} {a : Addr} {n : Nat} {l : List Value} (h : F.cells a n = some l) {o m : Nat} (ho : o + m ≤ n) : F.cells (a.add o) m = some ((l.drop o).take m) := by
  obtain ⟨h1, h2⟩ := PH.cells_get h
  refine cells_mk (by simp; omega) fun j v hj => ?_
  rw [add_add]
  refine h2 (o + j) v ?_
  rw [List.getElem?_take] at hj
  split at hj
  · rw [List.getElem?_drop] at hj; exact hj
  · cases hj
theorem cell_at {F : PH} {a : Addr} {n : Nat} {l : List Value} (h : F.cells a n = some l) {o : Nat} {v : Value} (hv : l[o]? = some v) : F.cell (a.add o) = some v := (PH.cells_get h).2 o v hv
theorem add_zero' (a : Addr) : a.add 0 = a := by simp [Addr.add]
/-- The i-th element. -/
theorem Src.elem {F : PH} {p : Option Addr} {n sz : Nat} {xs : List Value} (h : Src F p (n * sz) xs) {i : Nat} (hi : i < n) (_ : 0 < sz) : ∃ a, p = some a ∧ F.cells (a.add (i * sz)) sz = some ((xs.drop (i * sz)).take sz) := by
  have hle : i * sz + sz ≤ n * sz := by
    have := Nat.mul_le_mul_right sz hi
    rw [Nat.succ_mul] at this
    exact this
  obtain ⟨a, h1, h2⟩ := h.2 (by omega)
  exact ⟨a, h1, cells_sub h2 hle⟩
theorem Src.elem1 {F : PH} {p : Option Addr} {n : Nat} {xs : List Value} (h : Src F p (n * 1) xs) {i : Nat} {v : Value} (hv : xs[i]? = some v) : ∃ a, p = some a ∧ F.cell (a.add i) = some v := by
  have hi : i < xs.length := by
    rcases Nat.lt_or_ge i xs.length with h' | h'
    · exact h'
    · rw [List.getElem?_eq_none h'] at hv; cases hv
  have := h.1
  obtain ⟨a, h1, h2⟩ := h.2 (by omega)
  exact ⟨a, h1, cell_at h2 hv⟩
theorem cell_one {F : PH} {g : Nat} {cur : Array Value} {e : TypeId} {fr : Nat × Nat} (h : F g = some (.cells cur e fr)) (j : Nat) : F.cell ⟨g, j, none⟩ = cur[j]? := by
  simp [PH.cell, h]
/-- A block that was built reads as its cells. -/
theorem cells_blk {F : PH} {g : Nat} {cs : List Value} {e : TypeId} {fr : Nat × Nat} (h : F g = some (.cells cs.toArray e fr)) {n : Nat} (hn : n = cs.length) : F.cells ⟨g, 0, none⟩ n = some cs := by
  refine cells_mk hn.symm fun j v hj => ?_
  rw [add_own, cell_one h]
  simpa using hj
theorem Src.blk {F : PH} {g : Nat} {cs : List Value} {e : TypeId} {fr : Nat × Nat} (h : F g = some (.cells cs.toArray e fr)) {n : Nat} (hn : n = cs.length) : Src F (some ⟨g, 0, none⟩) n cs := ⟨hn.symm, fun _ => ⟨_, rfl, cells_blk h hn⟩⟩
/-- A row that never turns again is read. -/
theorem Row.sl {r F : PH} {e : TypeId} {sz : Nat} {v : Value} {xs : List Value} (h : Row r e sz v xs) (hl : r.le F) : ∃ n, xs.length = n * sz ∧ Sl F sz v n xs := by
  rcases h with ⟨rfl, rfl, _⟩ | ⟨g, n, cap, cur, rfl, h1, rfl, h2, h3, h4, h5⟩
  · exact ⟨0, by simp, none, 0, rfl, Nat.le_refl _, Nat.zero_le _, by simp, fun h => absurd h (by simp)⟩
  · refine ⟨n, h1, some ⟨g, 0, none⟩, cap, rfl, h2, h3, h1, fun _ => ⟨_, rfl, cells_mk h1 fun j u hj => ?_⟩⟩
    have hF : F g = some (.cells cur e (0, 0)) := hl g _ (by simp [PH.one])
    rw [add_own, cell_one hF, Nat.zero_add]
    rw [← h5, List.getElem?_take] at hj
    split at hj
    · simpa using hj
    · cases hj
theorem Row.one {r : PH} {e : TypeId} {sz : Nat} {v : Value} {xs : List Value} (h : Row r e sz v xs) : v.oneCell' = true := by
  rcases h with ⟨rfl, _⟩ | ⟨g, n, cap, cur, rfl, _⟩ <;> rfl

section
variable {P : Program} {n : Nat} {C : Cx} {k : List KItem} {S : St} {all : Array Oper} {o : Oper} {l : List Oper} {B : Base} {κ : St → Prop} {st : Bool}

/-- What is lent turned, and nothing else. -/
theorem Sat.swapR {w w' : World} (hw : Sat B S w) {r r' : PH} {Rf : List PH} (hp : S.R.Perm (r :: Rf)) (h1 : w'.os = w.os) (h2 : w'.tape = w.tape) (h3 : w'.output = w.output) (h4 : w.heap.size ≤ w'.heap.size)
    (h5 : ∀ b, b < w.heap.size → r b = none → w'.heap[b]? = w.heap[b]?) (h6 : r'.In w') (h7 : ∀ b, r' b ≠ none → r b ≠ none ∨ w.heap.size ≤ b) (L : KL) (nx : Nat) : Sat B ⟨L, S.M, S.F, r' :: Rf, nx⟩ w' := by
  have hr : r ∈ S.R := hp.mem_iff.2 List.mem_cons_self
  obtain ⟨k1, k2, k3⟩ := hw.r r hr
  have hX : ∀ b, (∃ x ∈ [r], x b ≠ none) ↔ r b ≠ none := fun b => by simp
  refine hw.behind (Rc := [r]) (R' := [r']) hp ⟨fun b u e => ?_, (fun _ h => nomatch h), List.Pairwise.nil, fun x hx => ?_, List.pairwise_singleton _ _, ⟨h1, h2, h3, h4, fun b hb hx => h5 b hb ?_⟩, PH.le_refl _, fun b hb => .inl hb⟩ L nx
  · have e : S.F b = some u := e
    rcases k2 b with e' | e'
    · rw [e'] at e; cases e
    · exact (h5 b (hw.f.lt e) e').trans (hw.f b u e)
  · obtain rfl := List.mem_singleton.1 hx
    refine ⟨h6, fun b => ?_, fun b hb => ?_⟩
    · cases e : x b with
      | none => exact .inr rfl
      | some u =>
        refine .inl ?_
        rcases h7 b (by rw [e]; exact fun h => nomatch h) with h | h
        · rcases k2 b with h' | h'
          · exact h'
          · exact absurd h' h
        · show S.F b = none
          cases e2 : S.F b with
          | none => rfl
          | some u => have := hw.f.lt e2; exact absurd h (by omega)
    · rcases h7 b hb with h | h
      · exact .inl ((hX b).2 h)
      · exact .inr h
  · cases e : r b with
    | none => rfl
    | some u => exact absurd ((hX b).2 (by rw [e]; exact fun h => nomatch h)) hx
/-- Something new is there to be lent. -/
theorem Sat.emp {w : World} (hw : Sat B S w) : Sat B { S with R := PH.emp :: S.R } w := by
  refine ⟨hw.f, fun o ho => ⟨(hw.m o ho).1, (hw.m o ho).2.1, fun r hr => ?_, (hw.m o ho).2.2.2⟩, hw.mm, fun r hr => ?_, List.pairwise_cons.2 ⟨fun _ _ _ => .inl rfl, hw.rr⟩, hw.late, hw.f0, hw.fnew⟩
  · rcases List.mem_cons.1 hr with rfl | hr
    · rfl
    · exact (hw.m o ho).2.2.1 r hr
  · rcases List.mem_cons.1 hr with rfl | hr
    · exact ⟨fun b u e => (nomatch e), fun _ => .inr rfl, fun b hb => absurd rfl hb⟩
    · exact hw.r r hr
theorem VC.emp (h : VC P n C k { S with R := PH.emp :: S.R }) : VC P n C k S := fun a w ha hw => h a w ha hw.emp
/-- What was lent never turns again. -/
theorem Sat.freezeR {w : World} (hw : Sat B S w) {r : PH} {Rf : List PH} (hp : S.R.Perm (r :: Rf)) (L : KL) (nx : Nat) : ∃ F', S.F.le F' ∧ r.le F' ∧ Sat B ⟨L, S.M, F', Rf, nx⟩ w := by
  have hr : r ∈ S.R := hp.mem_iff.2 List.mem_cons_self
  obtain ⟨k1, k2, k3⟩ := hw.r r hr
  have hpw := (hp.pairwise_iff (R := PH.Disj) (fun h b => (h b).symm)).1 hw.rr
  rw [List.pairwise_cons] at hpw
  have hsub : ∀ x ∈ Rf, x ∈ S.R := fun x hx => hp.mem_iff.2 (List.mem_cons_of_mem _ hx)
  have hl1 : S.F.le (fun b => (S.F b).orElse fun _ => r b) := fun b u e => by simp [e]
  have hl2 : r.le (fun b => (S.F b).orElse fun _ => r b) := fun b u e => by
    rcases k2 b with h | h
    · simp [h, e]
    · rw [h] at e; cases e
  have hno : ∀ b, S.F b = none → r b = none → ((S.F b).orElse fun _ => r b) = none := fun b h1 h2 => by simp [h1, h2]
  refine ⟨fun b => (S.F b).orElse fun _ => r b, hl1, hl2, fun b u e => ?_, fun o ho => ?_, hw.mm, fun x hx => ?_, hpw.2, hw.late, PH.le_trans hw.f0 hl1, fun b hb => ?_⟩
  · cases e1 : S.F b with
    | some v => have e : (S.F b).orElse (fun _ => r b) = some u := e; rw [e1] at e; cases e; exact hw.f b _ e1
    | none => have e : (S.F b).orElse (fun _ => r b) = some u := e; rw [e1] at e; exact k1 b u e
  · obtain ⟨m1, m2, m3, m4⟩ := hw.m o ho
    exact ⟨m1, hno _ m2 (m3 r hr), fun x hx => m3 x (hsub x hx), m4⟩
  · obtain ⟨x1, x2, x3⟩ := hw.r x (hsub x hx)
    refine ⟨x1, fun b => ?_, x3⟩
    rcases x2 b with h | h
    · rcases hpw.1 x hx b with h' | h'
      · exact .inl (hno b h h')
      · exact .inr h'
    · exact .inr h
  · cases e1 : S.F b with
    | some v => exact hw.fnew b (by rw [e1]; exact fun h => nomatch h)
    | none =>
      have hb : (S.F b).orElse (fun _ => r b) ≠ none := hb
      rw [e1] at hb
      exact .inr (k3 b hb)
theorem VC.freezeR {r : PH} {Rf : List PH} (hp : S.R.Perm (r :: Rf)) (h : ∀ F', S.F.le F' → r.le F' → VC P n C k { S with F := F', R := Rf }) : VC P n C k S := by
  intro a w ha hw
  obtain ⟨F', h1, h2, h3⟩ := hw.freezeR hp S.L S.nx
  exact h F' h1 h2 a w ha h3

theorem Row.owns {r : PH} {e : TypeId} {sz : Nat} {v : Value} {xs : List Value} {w : World} (h : Row r e sz v xs) (hr : r.In w) : ∃ m, w.ownsRow 0 e sz v m xs ∧ (∀ b, r b = none ↔ v.ownBlock ≠ some b) := by
  rcases h with ⟨rfl, rfl, hn⟩ | ⟨g, m, cap, cur, rfl, h1, rfl, h2, h3, h4, h5⟩
  · exact ⟨0, ⟨by simp, .inl ⟨rfl, rfl⟩⟩, fun b => by simp [hn b, Value.ownBlock]⟩
  · refine ⟨m, ⟨h1, .inr ⟨g, cap, cur, rfl, Nat.zero_le _, hr g _ (by simp [PH.one]), h2, h3, h4, h5⟩⟩, fun b => ?_⟩
    by_cases e : b = g
    · subst e; simp [PH.one, Value.ownBlock]
    · simp [PH.one, Value.ownBlock, e, Ne.symm e]
theorem owns_row {e : TypeId} {sz m : Nat} {v : Value} {xs : List Value} {w : World} (h : w.ownsRow 0 e sz v m xs) : ∃ r : PH, Row r e sz v xs ∧ r.In w ∧ ∀ b, r b = none ↔ v.ownBlock ≠ some b := by
  obtain ⟨h0, ⟨rfl, rfl⟩ | ⟨g, cap, cur, rfl, _, hh, h2, h3, h4, h5⟩⟩ := h
  · obtain rfl : xs = [] := List.eq_nil_of_length_eq_zero (by simpa using h0)
    exact ⟨PH.emp, Row.nil e sz, fun b u e => (nomatch e), fun b => by simp [PH.emp, Value.ownBlock]⟩
  · refine ⟨PH.one g (.cells cur e (0, 0)), .inr ⟨g, m, cap, cur, rfl, h0, rfl, h2, h3, h4, h5⟩, fun b u e => ?_, fun b => ?_⟩
    · by_cases e' : b = g
      · subst e'; simp [PH.one] at e; subst e; exact hh
      · simp [PH.one, e'] at e
    · by_cases e : b = g
      · subst e; simp [PH.one, Value.ownBlock]
      · simp [PH.one, Value.ownBlock, e, Ne.symm e]
theorem run_append_none {w : World} {t ty' e : TypeId} {D : TD} {v : Value} {m sz : Nat} {xs : List Value} (ht : P.underlying t = some (.slice e)) (hD : ty P e = some D) (hown : w.ownsRow 0 e sz v m xs) (c : Nat) :
    (Builtin.append_ #[t, t] ty' #[v, .slice none 0 c]).run P w = .ok v w := by
  obtain ⟨i, hi, _⟩ := ty_info (w := w) hD
  have hsz := ty_size (w := w) hD
  rcases hown.2 with ⟨rfl, rfl⟩ | ⟨g, cap, cur, rfl, _, _, hnc, _⟩
  · simp [Builtin.append_, run_underlying ht, hsz, Builtin.lenOf, Builtin.firstCells]
  · simp [Builtin.append_, run_underlying ht, hsz, Builtin.lenOf, Builtin.firstCells, hnc, storeCells]
theorem Eff.append {s x : Operand} {args : Array Operand} {tys : Array TypeId} {t e : TypeId} {D : TD} {u : TD} {v : Value} {xs ys : List Value} {p : Option Addr} {m c : Nat} {r : PH} {Rf : List PH}
    (ho : o.op = .call ⟨.builtin .append, args, tys⟩) (ha : args.toList = [s, x]) (htys : tys.toList = [t, t]) (ht : ty P t = some u) (hu : u.d = .slice e) (hD : ty P e = some D) (hz : D.size = D.zero.cells.size) (hpos : 0 < D.size)
    (hs : evo S.L s = some (.v v)) (hx : evo S.L x = some (.v (.slice p m c))) (hp : S.R.Perm (r :: Rf)) (hrow : Row r e D.size v xs) (hsrc : Src S.F p (m * D.size) ys) (h1 : ∀ u ∈ ys, u.oneCell' = true)
    (hb : xs.length + ys.length ≤ 1000000000) (hby : D.bytes ≤ 1000)
    (h : ∀ v' r', Row r' e D.size v' (xs ++ ys) → κ ⟨setk S.L o.dst (.v v'), S.M, S.F, r' :: Rf, S.nx⟩) : Eff P n B st o S κ := by
  refine Eff.value fun a w hka hkw => ?_
  have hr : r.In w := (hkw.r r (hp.mem_iff.2 List.mem_cons_self)).1
  obtain ⟨m0, hown, hblk⟩ := hrow.owns hr
  obtain rfl : args = #[s, x] := by cases args; simp at ha; simp [ha]
  obtain rfl : tys = #[t, t] := by cases tys; simp at htys; simp [htys]
  have hu' : P.underlying t = some (.slice e) := by rw [(ty_some ht).1, hu]
  obtain ⟨_, i, hi, hi1, hi2, hi3⟩ := ty_some hD
  have he : ∀ v' w', (Builtin.append_ #[t, t] o.type #[v, .slice p m c]).run P w = .ok v' w' → (execOp a.eval o).run P w = .ok (.value v') w' := by
    intro v' w' hrun
    obtain ⟨dst, op, type, pos, after, guard⟩ := o
    subst ho
    simp only [execOp, resolve, invoke, builtin, Sem.run_bind, Sem.run_pure, Result.andThen_ok, List.map_toArray, List.map_cons, List.map_nil, hka.eval hs, hka.eval hx, AV.val_v, hrun]
  have hxs := hown.1
  have hle : m0 + m ≤ xs.length + ys.length := by
    rw [hxs, hsrc.1]
    have := Nat.mul_le_mul_left m0 hpos
    have := Nat.mul_le_mul_left m hpos
    omega
  have key : ∃ v' w', (Builtin.append_ #[t, t] o.type #[v, .slice p m c]).run P w = .ok v' w' ∧ w'.ownsRow 0 e D.size v' (m0 + m) (xs ++ ys) ∧ w.grownBy w' v.ownBlock ∧ (v'.ownBlock = v.ownBlock ∨ v'.ownBlock = some w.heap.size) := by
    cases p with
    | none =>
      have hm : m = 0 := by
        rcases Nat.eq_zero_or_pos m with h0 | h0
        · exact h0
        · obtain ⟨a, h1, _⟩ := hsrc.2 (Nat.mul_pos h0 hpos)
          cases h1
      subst hm
      obtain rfl : ys = [] := List.eq_nil_of_length_eq_zero (by simpa using hsrc.1)
      exact ⟨v, w, by
        have := run_append_none (w := w) (ty' := o.type) hu' hD hown c
        exact this, by simpa using hown, World.grownBy.refl w _, .inl rfl⟩
    | some ad =>
      have hcells : ∀ j u, ys[j]? = some u → w.cell? (ad.add j) = some u := by
        intro j u hj
        have hlt : j < ys.length := by
          rcases Nat.lt_or_ge j ys.length with h' | h'
          · exact h'
          · rw [List.getElem?_eq_none h'] at hj; cases hj
        obtain ⟨ad', h1, h2⟩ := hsrc.2 (by rw [← hsrc.1]; omega)
        cases h1
        exact hkw.f.cell ((PH.cells_get h2).2 j u hj)
      obtain ⟨v', w', g1, g2, g3, _, g5⟩ := run_append_own_at (P := P) w 0 t o.type e i D.zero D.size D.bytes hu' hi hi3 hi1 hi2 hz.symm hpos v m0 xs hown ad m c ys hsrc.1 hcells h1 (by unfold maxLen; omega) (by
        have := Nat.mul_le_mul (show m0 + m ≤ 1000000000 by omega) hby
        omega) (Nat.zero_le _)
      exact ⟨v', w', g1, g2, g3, g5⟩
  obtain ⟨v', w', g1, g2, g3, g4⟩ := key
  obtain ⟨r', hrow', hr', hblk'⟩ := owns_row g2
  refine ⟨.v v', w', S.M, S.F, r' :: Rf, S.nx, ?_, ?_, Stab.refl _ _ _ _, h v' r' hrow'⟩
  · exact he _ _ g1
  · refine hkw.swapR hp g3.os g3.tape g3.output g3.size (fun b hb hn => g3.block b hb (fun e => (hblk b).1 hn e.symm)) hr' (fun b hb => ?_) _ _
    have hb' : v'.ownBlock = some b := Classical.byContradiction fun hc => hb ((hblk' b).2 hc)
    rcases g4 with g4 | g4
    · exact .inl fun hc => (hblk b).1 hc (by rw [← g4]; exact hb')
    · rw [hb'] at g4
      cases g4
      exact .inr (Nat.le_refl _)
end
end Go.Eng
