/- The engine, part 13: rows that are handed back; what is lent to be read; slots by their values. -/
import Derived.Test.YthdbmbabfngakaaE12
namespace Go.Eng
open Go Go.RowKit
set_option linter.unusedSimpArgs false
set_option linter.unusedVariables false
def PH.or (F r : PH) : PH := fun b => (F b).orElse fun _ => r b
theorem PH.or_left (F r : PH) : F.le (F.or r) := fun b u e => by simp [PH.or, e]
theorem PH.or_right {F r : PH} (h : F.Disj r) : r.le (F.or r) := fun b u e => by
  rcases h b with h | h
  · simp [PH.or, h, e]
  · rw [h] at e; cases e
theorem PH.or_none {F r : PH} {b : Nat} (h1 : F b = none) (h2 : r b = none) : F.or r b = none := by simp [PH.or, h1, h2]
theorem PH.or_some {F r : PH} {b : Nat} (h : F.or r b ≠ none) : F b ≠ none ∨ r b ≠ none := by
  cases e : F b with
  | some u => exact .inl (fun h => nomatch h)
  | none =>
    cases e2 : r b with
    | some u => exact .inr (fun h => nomatch h)
    | none => exact absurd (PH.or_none e e2) h
theorem PH.or_in {F r : PH} {w : World} (h1 : F.In w) (h2 : r.In w) : (F.or r).In w := fun b u e => by
  cases e1 : F b with
  | some v => simp [PH.or, e1] at e; subst e; exact h1 b _ e1
  | none => simp [PH.or, e1] at e; exact h2 b u e
/-- What is lent to be read, and comes back as it was. -/
theorem Fn.lend {P : Program} {f : FuncId} {args : List Value} {F r : PH} {R : List PH} {Q : Value → PH → List PH → Prop} {Q' : Value → List PH → Prop} (h : F.Disj r → Fn P f args (F.or r) R Q) (hc : CallOk P f) (hq : ∀ v F' R', Q v F' R' → Q' v R') : Fn P f args F (r :: R) (fun v F' R' => ∃ R1, R' = r :: R1 ∧ Q' v R1) := by
  refine ⟨hc, fun w hw => ?_⟩
  obtain ⟨hr1, hr2⟩ := hw.r r List.mem_cons_self
  have hrr := List.pairwise_cons.1 hw.rr
  have h0 : In0 w (F.or r) R := ⟨PH.or_in hw.f hr1, fun x hx => ⟨(hw.r x (List.mem_cons_of_mem _ hx)).1, fun b => by
    rcases (hw.r x (List.mem_cons_of_mem _ hx)).2 b with k1 | k1
    · rcases hrr.1 x hx b with k2 | k2
      · exact .inl (PH.or_none k1 k2)
      · exact .inr k2
    · exact .inr k1⟩, hrr.2⟩
  refine ((h hr2).2 w h0).mono ?_
  rintro e w' ⟨v, F', R', rfl, q, hs⟩
  have hrF : r.le F' := PH.le_trans (PH.or_right hr2) hs.f0
  have hX : ∀ b, (∃ x ∈ R, x b ≠ none) → ∃ x ∈ r :: R, x b ≠ none := fun b ⟨x, h1, h2⟩ => ⟨x, List.mem_cons_of_mem _ h1, h2⟩
  refine ⟨v, fun b => if r b = none then F' b else none, r :: R', rfl, ⟨R', rfl, hq _ _ _ q⟩, ?_⟩
  refine ⟨fun b u e => ?_, (fun _ h => nomatch h), List.Pairwise.nil, fun x hx => ?_, ?_, ⟨hs.late.os, hs.late.tape, hs.late.output, hs.late.size, fun k hk hx => hs.late.block k hk fun hx' => hx (hX k hx')⟩, fun b u e => ?_, fun b hb => ?_⟩
  · have e : (if r b = none then F' b else none) = some u := e
    split at e
    · exact hs.f b u e
    · cases e
  · rcases List.mem_cons.1 hx with rfl | hx
    · refine ⟨fun b u e => hs.f b u (hrF b u e), fun b => ?_, fun b hb => .inl ⟨x, List.mem_cons_self, hb⟩⟩
      by_cases e : x b = none
      · exact .inr e
      · exact .inl (if_neg e)
    · obtain ⟨x1, x2, x3⟩ := hs.r x hx
      refine ⟨x1, fun b => ?_, fun b hb => ?_⟩
      · rcases x2 b with h | h
        · refine .inl ?_
          show (if r b = none then F' b else none) = none
          split
          · exact h
          · rfl
        · exact .inr h
      · rcases x3 b hb with h | h
        · exact .inl (hX b h)
        · exact .inr h
  · refine List.pairwise_cons.2 ⟨fun x hx b => ?_, hs.rr⟩
    obtain ⟨x1, x2, x3⟩ := hs.r x hx
    cases e : r b with
    | none => exact .inl rfl
    | some u =>
      rcases x2 b with h | h
      · have h' : F' b = none := h
        rw [hrF b u e] at h'; cases h'
      · exact .inr h
  · have hn : r b = none := by
      rcases hr2 b with h | h
      · have e : F b = some u := e
        rw [h] at e; cases e
      · exact h
    show (if r b = none then F' b else none) = some u
    rw [if_pos hn]
    exact hs.f0 b u (PH.or_left F r b u e)
  · have hb' : (if r b = none then F' b else none) ≠ none := hb
    split at hb'
    · rename_i hn
      rcases hs.fnew b hb' with h | h | h
      · rcases PH.or_some h with h | h
        · exact .inl h
        · exact absurd hn h
      · exact .inr (.inl (hX b h))
      · exact .inr (.inr h)
    · exact absurd rfl hb'
/-- What was handed back never turns again. -/
theorem Fn.frozen {P : Program} {f : FuncId} {args : List Value} {F : PH} {R : List PH} {Q : Value → PH → List PH → Prop} {Q' : Value → PH → List PH → Prop} (h : Fn P f args F R Q) (hq : ∀ v F' R', Q v F' R' → ∃ r Rf, R'.Perm (r :: Rf) ∧ ∀ F'', F'.le F'' → r.le F'' → Q' v F'' Rf) : Fn P f args F R Q' :=
  ⟨h.1, fun w hw => (h.2 w hw).mono fun _ _ ⟨v, F', R', e, q, s⟩ => by
    obtain ⟨r, Rf, hp, h2⟩ := hq _ _ _ q
    obtain ⟨F'', k1, k2, k3⟩ := s.freezeR hp [] 0
    exact ⟨v, F'', Rf, e, h2 F'' k1 k2, k3⟩⟩
/-- A function that hands back a row of its own. -/
def RowFn (P : Program) (f : FuncId) (args : List Value) (F : PH) (e : TypeId) (sz : Nat) (xs : List Value) : Prop := Fn P f args F [] (fun v F' R' => ∃ r, R' = [r] ∧ Row r e sz v xs)
theorem RowFn.sl {P : Program} {f : FuncId} {args : List Value} {F : PH} {e : TypeId} {sz : Nat} {xs : List Value} (h : RowFn P f args F e sz xs) : PFn P f args F (fun v F' => ∃ n, xs.length = n * sz ∧ Sl F' sz v n xs) :=
  Fn.frozen h fun v F' R' ⟨r, h1, h2⟩ => ⟨r, [], by rw [h1], fun F'' k1 k2 => ⟨rfl, h2.sl k2⟩⟩
section
variable {P : Program} {n : Nat} {C : Cx} {k : List KItem} {S : St} {κ : St → Prop} {f : FuncId} {args : List Value} {d : Option Tmp} {e : TypeId} {sz : Nat} {xs : List Value} {st : Bool}
theorem CallV.row (hc : RowFn P f args S.F e sz xs) (next : ∀ v F' r, S.F.le F' → Row r e sz v xs → κ ⟨setk S.L d (.v v), S.M, F', r :: S.R, S.nx⟩) : CallV P st f args d κ S :=
  .mk ⟨_, [], S.R, hc, by simp, fun v F' R' h1 ⟨r, h2, h3⟩ => by subst h2; exact next v F' r h1 h3⟩
theorem CallV.sl (hc : RowFn P f args S.F e sz xs) (next : ∀ v F' n, S.F.le F' → xs.length = n * sz → Sl F' sz v n xs → κ ⟨setk S.L d (.v v), S.M, F', S.R, S.nx⟩) : CallV P st f args d κ S :=
  CallV.pure hc.sl fun v F' h1 ⟨n, h2, h3⟩ => next v F' n h1 h2 h3
/-- A row of the walk's own is lent to be read. -/
theorem CallV.lendSl {r : PH} {Rf : List PH} (hR : S.R.Perm (r :: Rf)) (ok : CallOk P f) (hc : S.F.Disj r → RowFn P f args (S.F.or r) e sz xs) (next : ∀ v F' n, S.F.le F' → xs.length = n * sz → Sl F' sz v n xs → κ ⟨setk S.L d (.v v), S.M, F', r :: Rf, S.nx⟩) : CallV P st f args d κ S := by
  have h1 := Fn.lend (Q' := fun v R1 => ∃ r, R1 = [r] ∧ Row r e sz v xs) hc ok (fun v F' R' h => h)
  have h2 := Fn.frozen (Q' := fun v F' R' => R' = [r] ∧ ∃ n, xs.length = n * sz ∧ Sl F' sz v n xs) h1 (fun v F' R' ⟨R1, e1, r1, e2, h3⟩ => ⟨r1, [r], by subst e2 e1; exact .swap _ _ _, fun F'' _ k2 => ⟨rfl, h3.sl k2⟩⟩)
  exact .mk ⟨_, [r], Rf, h2, hR, fun v F' R' k1 ⟨e1, m, k2, k3⟩ => by subst e1; exact next v F' m k1 k2 k3⟩
/-- Two rows of the walk's own are lent to be read; what comes back is a row. -/
theorem CallV.lend2 {r r2 : PH} {Rf : List PH} (hR : S.R.Perm (r :: r2 :: Rf)) (ok : CallOk P f) (hc : S.F.Disj r → (S.F.or r).Disj r2 → RowFn P f args ((S.F.or r).or r2) e sz xs) (next : ∀ v F' r', S.F.le F' → Row r' e sz v xs → κ ⟨setk S.L d (.v v), S.M, F', r :: r2 :: r' :: Rf, S.nx⟩) : CallV P st f args d κ S := by
  have h1 : S.F.Disj r → Fn P f args (S.F.or r) [r2] (fun v F' R' => ∃ R1, R' = r2 :: R1 ∧ ∃ r', R1 = [r'] ∧ Row r' e sz v xs) := fun hd => Fn.lend (Q' := fun v R1 => ∃ r', R1 = [r'] ∧ Row r' e sz v xs) (hc hd) ok (fun v F' R' h => h)
  have h2 := Fn.lend (Q' := fun v R1 => ∃ r', R1 = [r2, r'] ∧ Row r' e sz v xs) h1 ok (fun v F' R' ⟨R1, e1, r', e2, h⟩ => ⟨r', by rw [e1, e2], h⟩)
  exact .mk ⟨_, [r, r2], Rf, h2, hR, fun v F' R' k1 ⟨R1, e1, r', e2, h⟩ => by subst e2 e1; exact next v F' r' k1 h⟩
/-- A row of the walk's own is lent to be read; what comes back is a row. -/
theorem CallV.lend1 {r : PH} {Rf : List PH} (hR : S.R.Perm (r :: Rf)) (ok : CallOk P f) (hc : S.F.Disj r → RowFn P f args (S.F.or r) e sz xs) (next : ∀ v F' r', S.F.le F' → Row r' e sz v xs → κ ⟨setk S.L d (.v v), S.M, F', r :: r' :: Rf, S.nx⟩) : CallV P st f args d κ S := by
  have h1 := Fn.lend (Q' := fun v R1 => ∃ r', R1 = [r'] ∧ Row r' e sz v xs) hc ok (fun v F' R' h => h)
  exact .mk ⟨_, [r], Rf, h1, hR, fun v F' R' k1 ⟨R1, e1, r', e2, h⟩ => by subst e2 e1; exact next v F' r' k1 h⟩
/-- A row of the walk's own is lent to be read; what comes back is told by itself. -/
theorem CallV.lendPure {r : PH} {Rf : List PH} {Q : Value → Prop} (hR : S.R.Perm (r :: Rf)) (ok : CallOk P f) (hc : S.F.Disj r → PFn P f args (S.F.or r) (fun v _ => Q v)) (next : ∀ v F', S.F.le F' → Q v → κ ⟨setk S.L d (.v v), S.M, F', r :: Rf, S.nx⟩) : CallV P st f args d κ S := by
  have h1 := Fn.lend (Q' := fun v R1 => R1 = [] ∧ Q v) hc ok (fun v F' R' h => h)
  exact .mk ⟨_, [r], Rf, h1, hR, fun v F' R' k1 ⟨R1, e1, e2, h⟩ => by subst e2 e1; exact next v F' k1 h⟩
theorem Row.val {r : PH} {v : Value} (h : Row r e sz v xs) : ∃ p n c, v = .slice p n c := by
  rcases h with ⟨rfl, _⟩ | ⟨g, n, cap, cur, rfl, _⟩ <;> exact ⟨_, _, _, rfl⟩
theorem Row.begin (b : Nat) (e : TypeId) (sz : Nat) : Row (PH.one b (.cells #[] e (0, 0))) e sz (.slice (some ⟨b, 0, none⟩) 0 0) [] := .inr ⟨b, 0, 0, #[], rfl, by simp, rfl, Nat.le_refl _, Nat.zero_le _, by simp, by simp⟩
/-- Slots that are told by their values. -/
def subv (L : KL) : KL → Prop
  | [] => True
  | (d, x) :: L' => (match look L d with
    | some y => y.val = x.val
    | none => False) ∧ subv L L'
theorem subv_look {L : KL} : ∀ {L' : KL}, subv L L' → ∀ d x, look L' d = some x → ∃ y, look L d = some y ∧ y.val = x.val
  | [], _, d, x, e => by cases e
  | (d', x') :: L', h, d, x, e => by
    simp only [look] at e
    split at e
    · rename_i hd
      cases e
      obtain ⟨h1, _⟩ := h
      split at h1
      · rename_i y hy; exact ⟨y, by rw [← hd]; exact hy, h1⟩
      · exact h1.elim
    · exact subv_look h.2 d x e
theorem VC.reL (L' : KL) (hl : subv S.L L') (h : VC P n C k { S with L := L' }) : VC P n C k S := by
  intro a w ha hw
  refine h a w ⟨ha.1, ha.2.1, fun d x hx => ?_⟩ (hw.setL _ _)
  obtain ⟨y, h1, h2⟩ := subv_look hl d x hx
  obtain ⟨k1, k2⟩ := ha.2.2 d y h1
  exact ⟨k1, k2.trans h2⟩
/-- Loops and cuts, what is lent in any order. -/
def subR (A B : List PH) : Prop := ∃ l : List PH, l.Sublist B ∧ l.Perm A
theorem subR_refl (A : List PH) : subR A A := ⟨A, List.Sublist.refl _, .refl _⟩
theorem subR_perm {A B : List PH} (h : B.Perm A) : subR A B := ⟨B, List.Sublist.refl _, h⟩
theorem subR_cons {A B : List PH} {r : PH} (h : subR A B) : subR A (r :: B) := let ⟨l, h1, h2⟩ := h; ⟨l, .cons _ h1, h2⟩
theorem VC.loopP {ι : Type} {c : Code} (L : ι → KL) (F : ι → PH) (R : ι → List PH) (I : ι → Prop) (μ : ι → Nat) (i0 : ι) (h0 : I i0) (hs : subk S.L (L i0)) (hF : F i0 = S.F) (hR : subR (R i0) S.R)
    (round : ∀ i, I i → ∀ G : St → Prop, (∀ j S', I j → μ j < μ i → subk S'.L (L j) → S.M.Sublist S'.M → S'.F = F j → subR (R j) S'.R → G S') → VC P n C (.code c :: .done G :: k) ⟨L i, S.M, F i, R i, S.nx⟩) : VC P n C (.code (.loop c) :: k) S := by
  obtain ⟨R0, hR1, hR2⟩ := hR
  refine VC.loop (fun i : ι × List PH => ⟨L i.1, S.M, F i.1, i.2, S.nx⟩) (fun i => I i.1 ∧ i.2.Perm (R i.1)) (fun i => μ i.1) (i0, R0) ⟨h0, hR2⟩ ⟨subk_le hs, List.Sublist.refl _, hF, hR1⟩ ?_
  rintro ⟨i, Ri⟩ ⟨hi, hp⟩ G hG
  refine VC.permR hp (round i hi G fun j S' h1 h2 h3 h4 h5 ⟨l, h6, h7⟩ => ?_)
  exact hG (j, l) S' ⟨h1, h7⟩ h2 ⟨subk_le h3, h4, h5.symm, h6⟩
theorem VC.cutP {ι : Type} {c : Code} (L : ι → KL) (F : ι → PH) (R : ι → List PH) (I : ι → Prop) (hx : ∀ G : St → Prop, (∀ j S', I j → subk S'.L (L j) → S.M.Sublist S'.M → S'.F = F j → subR (R j) S'.R → G S') → VC P n C (.code c :: .done G :: k) S)
    (hk : ∀ i, I i → VC P n C k ⟨L i, S.M, F i, R i, S.nx⟩) : VC P n C (.code c :: k) S :=
  VC.cut (fun i : ι × List PH => ⟨L i.1, S.M, F i.1, i.2, S.nx⟩) (fun i => I i.1 ∧ i.2.Perm (R i.1)) (fun G hG => hx G fun j S' h1 h3 h4 h5 ⟨l, h6, h7⟩ => hG (j, l) S' ⟨h1, h7⟩ ⟨subk_le h3, h4, h5.symm, h6⟩) fun ⟨i, Ri⟩ ⟨hi, hp⟩ => VC.permR hp (hk i hi)
end
end Go.Eng
