/- The engine, part 18: loops and cuts in which all turns; rows that become blocks of the call's own; many rows lent to be read at once. -/
import Derived.Test.YthdbmbabfngakaaE17
namespace Go.Eng
open Go Go.RowKit
set_option linter.unusedSimpArgs false
set_option linter.unusedVariables false
section
variable {P : Program} {n : Nat} {C : Cx} {k : List KItem} {S : St} {o : Oper} {B : Base} {st : Bool} {κ : St → Prop}
/-- Loops in which own blocks, what never turns and what is lent turn. -/
theorem VC.loopW {ι : Type} {c : Code} (L : ι → KL) (M : ι → List Own) (F : ι → PH) (R : ι → List PH) (I : ι → Prop) (μ : ι → Nat) (i0 : ι) (h0 : I i0) (hs : subk S.L (L i0)) (hM : (M i0).Sublist S.M) (hF : F i0 = S.F) (hR : subR (R i0) S.R)
    (round : ∀ i, I i → ∀ G : St → Prop, (∀ j S', I j → μ j < μ i → subk S'.L (L j) → (M j).Sublist S'.M → S'.F = F j → subR (R j) S'.R → G S') → VC P n C (.code c :: .done G :: k) ⟨L i, M i, F i, R i, S.nx⟩) : VC P n C (.code (.loop c) :: k) S := by
  obtain ⟨R0, hR1, hR2⟩ := hR
  refine VC.loop (fun i : ι × List PH => ⟨L i.1, M i.1, F i.1, i.2, S.nx⟩) (fun i => I i.1 ∧ i.2.Perm (R i.1)) (fun i => μ i.1) (i0, R0) ⟨h0, hR2⟩ ⟨subk_le hs, hM, hF, hR1⟩ ?_
  rintro ⟨i, Ri⟩ ⟨hi, hp⟩ G hG
  refine VC.permR hp (round i hi G fun j S' h1 h2 h3 h4 h5 ⟨l, h6, h7⟩ => ?_)
  exact hG (j, l) S' ⟨h1, h7⟩ h2 ⟨subk_le h3, h4, h5.symm, h6⟩
/-- A cut behind a piece of code in which all turns. -/
theorem VC.cutW {ι : Type} {c : Code} (L : ι → KL) (M : ι → List Own) (F : ι → PH) (R : ι → List PH) (I : ι → Prop)
    (hx : ∀ G : St → Prop, (∀ j S', I j → subk S'.L (L j) → (M j).Sublist S'.M → S'.F = F j → subR (R j) S'.R → G S') → VC P n C (.code c :: .done G :: k) S)
    (hk : ∀ i, I i → VC P n C k ⟨L i, M i, F i, R i, S.nx⟩) : VC P n C (.code c :: k) S := by
  refine VC.cut (fun i : ι × List PH => ⟨L i.1, M i.1, F i.1, i.2, S.nx⟩) (fun i => I i.1 ∧ i.2.Perm (R i.1)) (fun G hG => hx G fun j S' h1 h2 h3 h4 ⟨l, h6, h7⟩ => ?_) ?_
  · exact hG (j, l) S' ⟨h1, h7⟩ ⟨subk_le h2, h3, h4.symm, h6⟩
  · rintro ⟨i, Ri⟩ ⟨hi, hp⟩
    exact VC.permR hp (hk i hi)
/-- A row of elements that is built: a block of the call's own. -/
theorem Eff.bslM {t e : TypeId} {len : Nat} {parts : Array (Nat × Operand)} {cs : List Value} (ho : o.op = .buildSlice t len parts) (hb : bslv P S t len parts = some (e, cs))
    (h : ∀ b, κ ⟨setk S.L o.dst (.s S.nx b 0 len len), S.M ++ [⟨S.nx, b, e, cs⟩], S.F, S.R, S.nx + 1⟩) : Eff P n B st o S κ := by
  refine Eff.value fun a w ha hw => ⟨.s S.nx w.heap.size 0 len len, _, _, _, _, _, ?_, hw.push e cs S.L S.nx (S.nx + 1), Stab.push _ _ _ _ _, h w.heap.size⟩
  obtain ⟨dst, op, type, pos, after, guard⟩ := o
  subst ho
  exact run_value' (by rfl) (bslv_run ha hb)
/-- A row of elements that is built, lent from now on. -/
theorem Eff.bslR {t e : TypeId} {len : Nat} {parts : Array (Nat × Operand)} {cs : List Value} (ho : o.op = .buildSlice t len parts) (hb : bslv P S t len parts = some (e, cs))
    (h : ∀ b, κ ⟨setk S.L o.dst (.v (.slice (some ⟨b, 0, none⟩) len len)), S.M, S.F, cell1 b e cs :: S.R, S.nx⟩) : Eff P n B st o S κ := by
  refine Eff.value fun a w ha hw => ?_
  have h3 := ((hw.push e cs S.L 0 S.nx).permM List.perm_append_comm).toR rfl S.L S.nx
  refine ⟨.v (.slice (some ⟨w.heap.size, 0, none⟩) len len), _, S.M, S.F, _, S.nx, ?_, h3, Stab.refl _ _ _ _, h _⟩
  obtain ⟨dst, op, type, pos, after, guard⟩ := o
  subst ho
  exact run_value' (by rfl) (bslv_run ha hb)
/-- A row becomes a block of the call's own. -/
theorem VC.rowM {r : PH} {Rf : List PH} {e : TypeId} {sz m c : Nat} {p : Addr} {xs : List Value} (i : Nat) (hR : S.R.Perm (r :: Rf)) (hrow : Row r e sz (.slice (some p) m c) xs)
    (h : ∀ g cs, p = ⟨g, 0, none⟩ → cs.length = c * sz → m ≤ c → c ≤ maxLen → cs.take (m * sz) = xs → VC P n C k ⟨S.L, ⟨i, g, e, cs⟩ :: S.M, S.F, Rf, S.nx⟩) : VC P n C k S := by
  obtain ⟨g, cs, rfl, rfl, h1, h2, h3, h4, _⟩ := hrow.cells
  exact VC.fromR i hR (h g cs rfl h1 h2 h3 h4)
end
section
variable {P : Program} {n : Nat} {C : Cx} {k : List KItem} {S : St}
/-- Blocks of the call's own under other names. -/
theorem VC.renM (L' : KL) (M' : List Own) (nx' : Nat) (hl : subv S.L L') (hM : S.M.map (fun o => (o.b, o.t, o.cs)) = M'.map (fun o => (o.b, o.t, o.cs))) (h : VC P n C k ⟨L', M', S.F, S.R, nx'⟩) : VC P n C k S := by
  refine VC.reL L' hl fun a w ha hw => h a w ha ?_
  have hmem : ∀ o ∈ M', ∃ o' ∈ S.M, o'.b = o.b ∧ o'.t = o.t ∧ o'.cs = o.cs := fun o ho => by
    have : (o.b, o.t, o.cs) ∈ S.M.map (fun o => (o.b, o.t, o.cs)) := by rw [hM]; exact List.mem_map_of_mem ho
    obtain ⟨o', h1, h2⟩ := List.mem_map.1 this
    simp only [Prod.mk.injEq] at h2
    exact ⟨o', h1, h2⟩
  refine ⟨hw.f, fun o ho => ?_, ?_, hw.r, hw.rr, hw.late, hw.f0, hw.fnew⟩
  · obtain ⟨o', h1, h2, h3, h4⟩ := hmem o ho
    have := hw.m o' h1
    rw [h2, h3, h4] at this
    exact this
  · have h1 : (S.M.map (·.b)).Pairwise (· ≠ ·) := List.pairwise_map.2 hw.mm
    have h2 : S.M.map (·.b) = M'.map (·.b) := by
      have := congrArg (List.map (fun x : Nat × TypeId × List Value => x.1)) hM
      rw [List.map_map, List.map_map] at this
      exact this
    rw [h2] at h1
    exact List.pairwise_map.1 h1
/-- A row becomes a block of the call's own; which one. -/
theorem VC.rowE {r : PH} {Rf : List PH} {e : TypeId} {sz m c : Nat} {p : Addr} {xs : List Value} (i : Nat) (hR : S.R.Perm (r :: Rf)) (hrow : Row r e sz (.slice (some p) m c) xs)
    (h : ∀ g cs, p = ⟨g, 0, none⟩ → r = cell1 g e cs → cs.length = c * sz → m ≤ c → c ≤ maxLen → cs.take (m * sz) = xs → VC P n C k ⟨S.L, ⟨i, g, e, cs⟩ :: S.M, S.F, Rf, S.nx⟩) : VC P n C k S := by
  obtain ⟨g, cs, rfl, rfl, h1, h2, h3, h4, _⟩ := hrow.cells
  exact VC.fromR i hR (h g cs rfl rfl h1 h2 h3 h4)
/-- Slots by their values; names from a number on. -/
theorem VC.reN (L' : KL) (nx' : Nat) (hl : subv S.L L') (h : VC P n C k ⟨L', S.M, S.F, S.R, nx'⟩) : VC P n C k S := VC.reL L' hl fun a w ha hw => h a w ha (hw.setL _ _)
end
theorem RetOk.r {P : Program} {ts : List ResultVar} {vs : List Value} {R' : List PH} {Q : Value → PH → List PH → Prop} {S : St} (hv : rvals P S ts = some vs) (hR : RetR S R') (hq : Q (rval vs) S.F R') : RetOk P ts Q S := ⟨vs, R', hv, hR, hq⟩
theorem RetR.ownSub {S : St} {i : Nat} {m : Own} {R' : List PH} (hM : ownF S.M i = some m) (h : R'.Sublist S.R) : RetR S (cell1 m.b m.t m.cs :: R') :=
  fun _ _ hs => (RetR.own hM _ _ hs).weaken ⟨(fun _ _ h => nomatch h), List.nil_sublist _, rfl, h.cons_cons _⟩
theorem Row.len {r : PH} {e : TypeId} {sz : Nat} {v : Value} {xs : List Value} (h : Row r e sz v xs) : ∃ p m c, v = .slice p m c ∧ xs.length = m * sz ∧ m ≤ c ∧ c ≤ maxLen := by
  rcases h with ⟨rfl, rfl, _⟩ | ⟨g, m', cap, cur, e1, h1, h2, h3, h4, h5, h6⟩
  · exact ⟨_, _, _, rfl, by simp, Nat.le_refl _, Nat.zero_le _⟩
  · exact ⟨_, _, _, e1, h1, h3, h4⟩
/-- A row with elements lies somewhere. -/
theorem Row.has {r : PH} {e : TypeId} {sz : Nat} {v : Value} {xs : List Value} (h : Row r e sz v xs) (hne : xs ≠ []) : ∃ p m c, v = .slice (some p) m c ∧ xs.length = m * sz ∧ m ≤ c ∧ c ≤ maxLen := by
  rcases h with ⟨rfl, rfl, _⟩ | ⟨g, m', cap, cur, e1, h1, h2, h3, h4, h5, h6⟩
  · exact absurd rfl hne
  · exact ⟨_, _, _, e1, h1, h3, h4⟩
/-- What is left behind some elements. -/
theorem Sl.drop {F : PH} {sz m c : Nat} {p : Option Addr} {xs : List Value} (h : Sl F sz (.slice p m c) m xs) {k : Nat} (hk : k ≤ m) : Sl F sz (.slice (if c = k then p else p.map (·.add (k * sz))) (m - k) (c - k)) (m - k) (xs.drop (k * sz)) := by
  obtain ⟨p', c', e, h1, h2, h3⟩ := h
  cases e
  refine ⟨_, _, rfl, by omega, by omega, ?_, fun hpos => ?_⟩
  · rw [List.length_drop, h3.1, Nat.sub_mul]
  · have hm : 0 < m - k := Nat.pos_of_mul_pos_right hpos
    obtain ⟨a, rfl, hc⟩ := h3.2 (Nat.lt_of_lt_of_le hpos (Nat.mul_le_mul_right _ (Nat.sub_le _ _)))
    rw [if_neg (by omega)]
    refine ⟨_, rfl, ?_⟩
    have := cells_sub hc (o := k * sz) (m := (m - k) * sz) (by rw [← Nat.add_mul]; exact Nat.mul_le_mul_right _ (by omega))
    rw [this, List.take_of_length_le]
    rw [List.length_drop, h3.1, Nat.sub_mul]
    exact Nat.le_refl _
/-- The first elements of a row. -/
theorem Row.take {r : PH} {e : TypeId} {sz m c : Nat} {p : Addr} {xs : List Value} (h : Row r e sz (.slice (some p) m c) xs) {k : Nat} (hk : k ≤ m) : Row r e sz (.slice (some p) k c) (xs.take (k * sz)) := by
  rcases h with ⟨e1, _⟩ | ⟨g, m', cap, cur, e1, h1, h2, h3, h4, h5, h6⟩
  · cases e1
  · cases e1
    refine .inr ⟨g, k, c, cur, rfl, ?_, h2, Nat.le_trans hk h3, h4, h5, ?_⟩
    · rw [List.length_take, h1]; exact Nat.min_eq_left (Nat.mul_le_mul_right _ hk)
    · rw [← h6, List.take_take, Nat.min_eq_left (Nat.mul_le_mul_right _ hk)]
/-- All of what was handed back never turns again. -/
theorem Sat.freezeAll {B : Base} {w : World} : ∀ (Rs : List PH) {S : St} {Rf : List PH}, Sat B S w → S.R.Perm (Rs ++ Rf) → ∀ (L : KL) (nx : Nat), ∃ F', S.F.le F' ∧ (∀ r ∈ Rs, r.le F') ∧ Sat B ⟨L, S.M, F', Rf, nx⟩ w
  | [], S, Rf, hw, hp, L, nx => ⟨S.F, PH.le_refl _, (fun _ h => nomatch h), (hw.permR hp).setL L nx⟩
  | r :: Rs, S, Rf, hw, hp, L, nx => by
    obtain ⟨F1, h1, h2, h3⟩ := hw.freezeR (Rf := Rs ++ Rf) hp L nx
    obtain ⟨F2, k1, k2, k3⟩ := Sat.freezeAll Rs (Rf := Rf) h3 (List.Perm.refl _) L nx
    refine ⟨F2, PH.le_trans h1 k1, fun x hx => ?_, k3⟩
    rcases List.mem_cons.1 hx with rfl | hx
    · exact PH.le_trans h2 k1
    · exact k2 x hx
theorem Fn.frozenAll {P : Program} {f : FuncId} {args : List Value} {F : PH} {R : List PH} {Q : Value → PH → List PH → Prop} {Q' : Value → PH → Prop} (h : Fn P f args F R Q) (hq : ∀ v F' R', Q v F' R' → ∀ F'', F'.le F'' → (∀ r ∈ R', r.le F'') → Q' v F'') : Fn P f args F R (fun v F' R' => R' = [] ∧ Q' v F') :=
  ⟨h.1, fun w hw => (h.2 w hw).mono fun _ _ ⟨v, F', R', e, q, s⟩ => by
    obtain ⟨F'', k1, k2, k3⟩ := s.freezeAll R' (Rf := []) (by simp) [] 0
    exact ⟨v, F'', [], e, ⟨rfl, hq _ _ _ q F'' k1 k2⟩, k3⟩⟩
theorem VC.freezeAll {P : Program} {n : Nat} {C : Cx} {k : List KItem} {S : St} (Rs : List PH) {Rf : List PH} (hp : S.R.Perm (Rs ++ Rf)) (h : ∀ F', S.F.le F' → (∀ r ∈ Rs, r.le F') → VC P n C k { S with F := F', R := Rf }) : VC P n C k S := by
  intro a w ha hw
  obtain ⟨F', h1, h2, h3⟩ := hw.freezeAll Rs hp S.L S.nx
  exact h F' h1 h2 a w ha h3
/-- What never turns, and all of some rows. -/
def orAll : PH → List PH → PH
  | F, [] => F
  | F, r :: Rs => orAll (F.or r) Rs
theorem le_orAll : ∀ (Rs : List PH) (F : PH), F.le (orAll F Rs)
  | [], F => PH.le_refl _
  | r :: Rs, F => PH.le_trans (PH.or_left F r) (le_orAll Rs (F.or r))
theorem Fn.lendAll {P : Program} {f : FuncId} {args : List Value} {Q : Value → Prop} : ∀ (Rs : List PH) (F : PH), ((∀ r ∈ Rs, r.le (orAll F Rs)) → PFn P f args (orAll F Rs) (fun v _ => Q v)) → CallOk P f → Fn P f args F Rs (fun v F' R' => R' = Rs ∧ Q v)
  | [], F, h, hc => h (fun _ h => nomatch h)
  | r :: Rs, F, h, hc => by
    have := Fn.lend (r := r) (R := Rs) (Q := fun v F' R' => R' = Rs ∧ Q v) (Q' := fun v R' => R' = Rs ∧ Q v) (fun hd => Fn.lendAll Rs (F.or r) (fun hle => h (fun x hx => by
      rcases List.mem_cons.1 hx with rfl | hx
      · exact PH.le_trans (PH.or_right hd) (le_orAll _ _)
      · exact hle x hx)) hc) hc (fun _ _ _ h => h)
    exact this.mono fun v F' R' _ ⟨R1, e1, e2, q⟩ => ⟨by rw [e1, e2], q⟩
section
variable {P : Program} {n : Nat} {C : Cx} {k : List KItem} {S : St} {κ : St → Prop} {f : FuncId} {args : List Value} {d : Option Tmp} {st : Bool}
theorem CallV.lendAll {Rs Rf : List PH} {Q : Value → Prop} (hR : S.R.Perm (Rs ++ Rf)) (ok : CallOk P f) (hc : (∀ r ∈ Rs, r.le (orAll S.F Rs)) → PFn P f args (orAll S.F Rs) (fun v _ => Q v))
    (next : ∀ v F', S.F.le F' → Q v → κ ⟨setk S.L d (.v v), S.M, F', Rs ++ Rf, S.nx⟩) : CallV P st f args d κ S :=
  .mk ⟨_, Rs, Rf, Fn.lendAll Rs S.F hc ok, hR, fun v F' R' k1 ⟨e, q⟩ => by subst e; exact next v F' k1 q⟩
theorem Fn.ok {P : Program} {f : FuncId} {args : List Value} {F : PH} {R : List PH} {Q : Value → PH → List PH → Prop} (h : Fn P f args F R Q) : CallOk P f := h.1
/-- A call to which rows are lent that come back changed, and own blocks. -/
theorem CallV.gen {R1 Rf : List PH} {Q : Value → PH → List PH → Prop} (hp : S.R.Perm (R1 ++ Rf)) (hc : Fn P f args S.F R1 Q) (next : ∀ v F' R', S.F.le F' → Q v F' R' → κ ⟨setk S.L d (.v v), S.M, F', R' ++ Rf, S.nx⟩) : CallV P st f args d κ S :=
  .mk ⟨_, R1, Rf, hc, hp, next⟩
/-- The same, with one block of the call's own beside. -/
theorem CallV.ownGen {i : Nat} {m : Own} {R1 Rf : List PH} {Q : Value → PH → List PH → Prop} {Q' : Value → PH → List Value → List PH → Prop} (hM : ownF S.M i = some m) (hp : S.R.Perm (R1 ++ Rf)) (hc : Fn P f args S.F (cell1 m.b m.t m.cs :: R1) Q) (hq : ∀ v F' R', Q v F' R' → ∃ cs' R'', R' = cell1 m.b m.t cs' :: R'' ∧ Q' v F' cs' R'')
    (next : ∀ v F' cs' R'', S.F.le F' → Q' v F' cs' R'' → κ ⟨setk S.L d (.v v), updM S.M i cs', F', R'' ++ Rf, S.nx⟩) : CallV P false f args d κ S := by
  obtain ⟨M', hpm, hu⟩ := own_split hM
  refine ⟨_, ⟨[], M', S.F, cell1 m.b m.t m.cs :: S.R, 0⟩, cell1 m.b m.t m.cs :: R1, Rf, .toR hpm _ _, hc, hp.cons _, ?_⟩
  intro v F' R' hF q
  obtain ⟨cs', R'', rfl, q'⟩ := hq _ _ _ q
  exact ⟨_, rfl, Shift.fromR m.i (.refl _) (hu cs').symm _ _, fun h => (nomatch h), next v F' cs' R'' hF q'⟩
end
section
variable {P : Program} {n : Nat} {C : Cx} {k : List KItem} {S : St} {all : Array Oper} {o : Oper} {l : List Oper} {B : Base} {κ : St → Prop} {st : Bool}
/-- Append to a row, of what a machine holds. -/
theorem Eff.appendB {s x : Operand} {args : Array Operand} {tys : Array TypeId} {t e : TypeId} {D : TD} {u : TD} {v : Value} {xs ys : List Value} {p : Option Addr} {m c : Nat} {r : PH} {Rf : List PH}
    (ho : o.op = .call ⟨.builtin .append, args, tys⟩) (ha : args.toList = [s, x]) (htys : tys.toList = [t, t]) (ht : ty P t = some u) (hu : u.d = .slice e) (hD : ty P e = some D) (hz : D.size = D.zero.cells.size) (hpos : 0 < D.size)
    (hs : evo S.L s = some (.v v)) (hx : evo S.L x = some (.v (.slice p m c))) (hp : S.R.Perm (r :: Rf)) (hrow : Row r e D.size v xs) (hsrc : Src S.F p (m * D.size) ys) (h1 : ∀ u ∈ ys, u.oneCell' = true)
    (hb : xs.length + ys.length ≤ maxLen) (hby : (xs.length + ys.length) * D.bytes ≤ 140737488355328)
    (h : ∀ v' r', Row r' e D.size v' (xs ++ ys) → κ ⟨setk S.L o.dst (.v v'), S.M, S.F, r' :: Rf, S.nx⟩) : Eff P n B st o S κ := by
  refine Eff.value fun a w hka hkw => ?_
  have hr : r.In w := (hkw.r r (hp.mem_iff.2 List.mem_cons_self)).1
  obtain ⟨m0, hown, hblk⟩ := hrow.owns hr
  obtain rfl : args = #[s, x] := by cases args; simp at ha; simp [ha]
  obtain rfl : tys = #[t, t] := by cases tys; simp at htys; simp [htys]
  have hu' : P.underlying t = some (.slice e) := by rw [(ty_some ht).1, hu]
  obtain ⟨_, i, hi, hi1, hi2, hi3⟩ := ty_some hD
  have he : ∀ v' w', (Builtin.append_ #[t, t] o.type #[v, .slice p m c]).run P w = .ok v' w' → (execOp a.eval o).run P w = .ok (.value v') w' := by
    intro v' w' hrun
    obtain ⟨dst, op, type, pos, after, guard⟩ := o
    subst ho
    simp only [execOp, resolve, invoke, builtin, Sem.run_bind, Sem.run_pure, Result.andThen_ok, List.map_toArray, List.map_cons, List.map_nil, hka.eval hs, hka.eval hx, AV.val_v, hrun]
  have hxs := hown.1
  have hle : m0 + m ≤ xs.length + ys.length := by
    rw [hxs, hsrc.1]
    have := Nat.mul_le_mul_left m0 hpos
    have := Nat.mul_le_mul_left m hpos
    omega
  have key : ∃ v' w', (Builtin.append_ #[t, t] o.type #[v, .slice p m c]).run P w = .ok v' w' ∧ w'.ownsRow 0 e D.size v' (m0 + m) (xs ++ ys) ∧ w.grownBy w' v.ownBlock ∧ (v'.ownBlock = v.ownBlock ∨ v'.ownBlock = some w.heap.size) := by
    cases p with
    | none =>
      have hm : m = 0 := by
        rcases Nat.eq_zero_or_pos m with h0 | h0
        · exact h0
        · obtain ⟨a, h1, _⟩ := hsrc.2 (Nat.mul_pos h0 hpos)
          cases h1
      subst hm
      obtain rfl : ys = [] := List.eq_nil_of_length_eq_zero (by simpa using hsrc.1)
      exact ⟨v, w, by
        have := run_append_none (w := w) (ty' := o.type) hu' hD hown c
        exact this, by simpa using hown, World.grownBy.refl w _, .inl rfl⟩
    | some ad =>
      have hcells : ∀ j u, ys[j]? = some u → w.cell? (ad.add j) = some u := by
        intro j u hj
        have hlt : j < ys.length := by
          rcases Nat.lt_or_ge j ys.length with h' | h'
          · exact h'
          · rw [List.getElem?_eq_none h'] at hj; cases hj
        obtain ⟨ad', h1, h2⟩ := hsrc.2 (by rw [← hsrc.1]; omega)
        cases h1
        exact hkw.f.cell ((PH.cells_get h2).2 j u hj)
      obtain ⟨v', w', g1, g2, g3, _, g5⟩ := run_append_own_at (P := P) w 0 t o.type e i D.zero D.size D.bytes hu' hi hi3 hi1 hi2 hz.symm hpos v m0 xs hown ad m c ys hsrc.1 hcells h1 (Nat.le_trans hle hb) (Nat.le_trans (Nat.mul_le_mul_right _ hle) hby) (Nat.zero_le _)
      exact ⟨v', w', g1, g2, g3, g5⟩
  obtain ⟨v', w', g1, g2, g3, g4⟩ := key
  obtain ⟨r', hrow', hr', hblk'⟩ := owns_row g2
  refine ⟨.v v', w', S.M, S.F, r' :: Rf, S.nx, ?_, ?_, Stab.refl _ _ _ _, h v' r' hrow'⟩
  · exact he _ _ g1
  · refine hkw.swapR hp g3.os g3.tape g3.output g3.size (fun b hb hn => g3.block b hb (fun e => (hblk b).1 hn e.symm)) hr' (fun b hb => ?_) _ _
    have hb' : v'.ownBlock = some b := Classical.byContradiction fun hc => hb ((hblk' b).2 hc)
    rcases g4 with g4 | g4
    · exact .inl fun hc => (hblk b).1 hc (by rw [← g4]; exact hb')
    · rw [hb'] at g4
      cases g4
      exact .inr (Nat.le_refl _)
end
end Go.Eng
