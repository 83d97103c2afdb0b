/- The evaluator, part 13: regions, in the text's order and in any order. -/
import Derived.Test.YtmiekonofocboaaGreatDoorF12
set_option linter.unusedVariables false
set_option linter.unusedSectionVars false
set_option linter.unusedSimpArgs false
namespace Go.AM
open Go Go.RowKit Go.Eng

/-- A frame's slots, the memory, the next name. -/
structure Sg where
  fr : Tr X
  dm : List DM
  hp : Hp
  nx : Nat
/-- What a guard asks of a slot. -/
def agb (want : Bool) : X → Option Bool
  | .b x => some x
  | .tup _ => some (!want)
  | _ => none
def agv (all : Array Oper) (fr : Tr X) (j : Nat) (want : Bool) : Option Bool :=
  match all[j]? with
  | some oj => (match oj.dst with
    | some d => (match find fr d with
      | some x => agb want x
      | none => none)
    | none => none)
  | none => none
section
variable {P : Program} {ro : Option Nat} {B : World} {e : Env} {U : Nat → Prop} {i nx : Nat} {o : Oper} {a : Act} {w : World} {hp : Hp} {fr : Tr X} {dm : List DM} {n : Nat} {τ : Ty} {all : Array Oper} {U0 : Nat → Prop}
theorem agb_run {want b : Bool} {x : X} {v : Value} (hx : den e x = some v) (h : agb want x = some b) : gb want v = some b := by
  unfold agb at h
  split at h
  · simp only [den, Option.some.injEq] at hx; subst hx; exact h
  · obtain ⟨vs, _, rfl⟩ := den_tup hx; exact h
  · cases h
theorem agv_run (hk : KnX e n fr dm a) {j : Nat} {want b : Bool} (h : agv all fr j want = some b) : (yielded all a.tmps j == some want) = (b == want) := by
  unfold agv at h
  split at h
  · rename_i oj hj
    split at h
    · rename_i d hd
      split at h
      · rename_i x hl
        obtain ⟨h1, v, h2, h3⟩ := hk.2.2 _ _ hl
        refine yielded_at hj hd ?_ (agb_run h2 h)
        rw [Array.getElem?_eq_getElem (by rw [hk.2.1]; exact h1)]
        simp only [Array.getD, hk.2.1, h1] at h3
        simpa using h3
      · cases h
    · cases h
  · cases h
/-- One operation, its guard with it: the slots and the memory behind it. -/
def pack (d : Option Tmp) (s : Sg) : Outs → Option (List Sg)
  | [] => some []
  | (y, hp, nx) :: r => (match Nat.ble s.nx nx, putD s.fr d y, pack d s r with
    | true, some fr', some l => some (⟨fr', s.dm, hp, nx⟩ :: l)
    | _, _, _ => none)
theorem pack_mem {d : Option Tmp} {s : Sg} : ∀ {outs : Outs} {l : List Sg}, pack d s outs = some l → ∀ y hp nx, (y, hp, nx) ∈ outs → ∃ fr', putD s.fr d y = some fr' ∧ s.nx ≤ nx ∧ (⟨fr', s.dm, hp, nx⟩ : Sg) ∈ l
  | [], l, _, _, _, _, h => nomatch h
  | (y, hp, nx) :: r, l, h, y', hp', nx', hm => by
    simp only [pack] at h
    split at h
    · rename_i fr' l' h0 h1 h2
      cases h
      rcases List.mem_cons.1 hm with h | h
      · cases h; exact ⟨fr', h1, by simpa using h0, List.mem_cons_self⟩
      · obtain ⟨f2, g1, g2, g3⟩ := pack_mem h2 _ _ _ h
        exact ⟨f2, g1, g2, List.mem_cons_of_mem _ g3⟩
    · cases h
def aop (P : Program) (τ : Ty) (cf cr : CallF) (n : Nat) (all : Array Oper) (i : Nat) (o : Oper) (s : Sg) : Option (List Sg) :=
  match dok n o.dst with
  | false => none
  | true => (match o.guard with
    | none => (match aeff P τ cf cr s.fr s.hp i s.nx o.op with
      | some outs => pack o.dst s outs
      | none => none)
    | some (j, want) => (match agv all s.fr j want with
      | some b => (match b == want with
        | true => (match aeff P τ cf cr s.fr s.hp i s.nx o.op with
          | some outs => pack o.dst s outs
          | none => none)
        | false => (match putD s.fr o.dst undX with
          | some fr' => some [⟨fr', s.dm, s.hp, s.nx⟩]
          | none => none))
      | none => none))
/-- Which names are used in the midst of a region: those from ahead of it, those of the operations that are over, those of calls. -/
def Names (U0 : Nat → Prop) (base size : Nat) (D : List Nat) (U : Nat → Prop) (nx : Nat) : Prop := (base + size ≤ nx ∧ ∀ id, U0 id → id < base) ∧ ∀ id, U id → U0 id ∨ (∃ j, j ∈ D ∧ id = base + j) ∨ (base + size ≤ id ∧ id < nx)
theorem Names.step {base size : Nat} {D : List Nat} {nx' i : Nat} (h : Names U0 base size D U nx) (hn : nx ≤ nx') : Names U0 base size (i :: D) (Ext U (base + i) nx nx') nx' := by
  refine ⟨⟨Nat.le_trans h.1.1 hn, h.1.2⟩, fun id hid => ?_⟩
  have h1 := h.1.1
  rcases hid with h2 | h2 | h2
  · rcases h.2 id h2 with h3 | ⟨j, h3, h4⟩ | h3
    · exact .inl h3
    · exact .inr (.inl ⟨j, List.mem_cons_of_mem _ h3, h4⟩)
    · exact .inr (.inr ⟨h3.1, by omega⟩)
  · exact .inr (.inl ⟨i, List.mem_cons_self, h2⟩)
  · exact .inr (.inr ⟨by omega, h2.2⟩)
theorem Names.skip {base size : Nat} {D : List Nat} {i : Nat} (h : Names U0 base size D U nx) : Names U0 base size (i :: D) U nx := by
  refine ⟨h.1, fun id hid => ?_⟩
  rcases h.2 id hid with h3 | ⟨j, h3, h4⟩ | h3
  · exact .inl h3
  · exact .inr (.inl ⟨j, List.mem_cons_of_mem _ h3, h4⟩)
  · exact .inr (.inr h3)
theorem Names.fresh {base size : Nat} {D : List Nat} (h : Names U0 base size D U nx) (hi : i ∉ D) (hs : i < size) : ¬ U (base + i) := fun hu => by
  rcases h.2 _ hu with h1 | ⟨j, h1, h2⟩ | h1
  · have := h.1.2 _ h1; omega
  · have : i = j := by omega
    exact hi (this ▸ h1)
  · omega
theorem Names.above {base size : Nat} {D : List Nat} (h : Names U0 base size D U nx) (hD : ∀ j ∈ D, j < size) : ∀ id, nx ≤ id → ¬ U id := fun id hid hu => by
  have h0 := h.1.1
  rcases h.2 _ hu with h1 | ⟨j, h1, h2⟩ | h1
  · have := h.1.2 _ h1; omega
  · have := hD j h1; omega
  · omega
/-- An operation in its order (its guard taken in), from a frame on: to a frame where what is known holds. -/
theorem aop_ok (hτ : TyOk P τ) {cf cr : CallF} (hcf : CfOk P B e cf) (hcr : CrOk P B e cr) {s : Sg} (hk : KnX e n s.fr s.dm a) (hf : Fit B e s.hp U w) {base size : Nat} {D : List Nat} (hN : Names U0 base size D U s.nx) (hD : ∀ j ∈ D, j < size) (hi : i ∉ D) (hs : i < size) {ss : List Sg} (h : aop P τ cf cr n all (base + i) o s = some ss)
    {K : Act → World → Prop} {Q : Exit → Act → World → Prop} (hK : ∀ s' e' U' v w', s' ∈ ss → e.le e' → KnX e' n s'.fr s'.dm (a.put o.dst v) → Fit B e' s'.hp U' w' → Names U0 base size (i :: D) U' s'.nx → K (a.put o.dst v) w') :
    if Region.wanted o (yielded all a.tmps) then o.wpIn (WF ro) 0 P a w K Q else (∀ f, o.about P w a.eval = some f → (WF ro).fn f) ∧ K (a.put o.dst undef) w := by
  unfold aop at h
  split at h
  · cases h
  · rename_i hd
    have eff : ∀ {outs : Outs}, aeff P τ cf cr s.fr s.hp (base + i) s.nx o.op = some outs → pack o.dst s outs = some ss → o.wpIn (WF ro) 0 P a w K Q := by
      intro outs h1 h2
      refine aeff_ok hτ hcf hcr hk hf (hN.fresh hi hs) (hN.above hD) h1 K Q fun y hp' nx' e' v w' m1 m2 m3 m4 => ?_
      obtain ⟨fr', g1, g2, g3⟩ := pack_mem h2 _ _ _ m1
      exact hK _ e' _ v w' g3 m2 ((hk.mono m2).put m3 hd g1) m4 (hN.step g2)
    split at h
    · rename_i hg
      rw [if_pos (by simp [Region.wanted, hg])]
      split at h
      · rename_i outs h1; exact eff h1 h
      · cases h
    · rename_i j want hg
      split at h
      · rename_i b hb
        have hy := agv_run hk hb
        split at h
        · rename_i hbw
          rw [if_pos (by simpa [Region.wanted, hg, hy] using hbw)]
          split at h
          · rename_i outs h1; exact eff h1 h
          · cases h
        · rename_i hbw
          rw [if_neg (by simpa [Region.wanted, hg, hy] using hbw)]
          split at h
          · rename_i fr' hfr
            cases h
            exact ⟨fun _ _ => trivial, hK _ e U undef w List.mem_cons_self (Env.le_refl e) (hk.put (undX_den e) hd hfr) hf hN.skip⟩
          · cases h
      · cases h
/-- Region's operations, one behind the other. -/
def bindS {α : Type} (f : α → Option (List α)) : List α → Option (List α)
  | [] => some []
  | s :: l => (match f s, bindS f l with
    | some a, some b => some (a ++ b)
    | _, _ => none)
theorem bindS_mem {α : Type} {f : α → Option (List α)} : ∀ {l r : List α}, bindS f l = some r → ∀ s ∈ l, ∃ a, f s = some a ∧ ∀ x ∈ a, x ∈ r
  | [], _, _, s, h => nomatch h
  | t :: l, r, h, s, hs => by
    simp only [bindS] at h
    split at h
    · rename_i x y h1 h2
      cases h
      rcases List.mem_cons.1 hs with rfl | hs
      · exact ⟨x, h1, fun z hz => List.mem_append_left _ hz⟩
      · obtain ⟨c, g1, g2⟩ := bindS_mem h2 s hs
        exact ⟨c, g1, fun z hz => List.mem_append_right _ (g2 z hz)⟩
    · cases h
/-- A call is put off (not in a round of a loop over a function). -/
def adf (rn : Option Nat) (n : Nat) (o : Oper) (s : Sg) : Option Sg :=
  match rn, o.guard, o.op with
  | none, none, .defer ⟨.value fo, args, _⟩ => (match ev s.fr fo, evs s.fr args.toList, dok n o.dst, putD s.fr o.dst undX with
    | some (.f (.func f) first cap), some as, true, some fr' => some ⟨fr', .c f (xcat first (xcat as cap)) :: s.dm, s.hp, s.nx⟩
    | _, _, _, _ => none)
  | _, _, _ => none
def aseq (P : Program) (τ : Ty) (rn : Option Nat) (cf cr : CallF) (n : Nat) (all : Array Oper) (base : Nat) : List Oper → Nat → Sg → Option (List Sg)
  | [], _, s => some [s]
  | o :: l, i, s => (match adf rn n o s with
    | some s1 => aseq P τ rn cf cr n all base l (i + 1) s1
    | none => (match aop P τ cf cr n all (base + i) o s with
      | some [s1] => aseq P τ rn cf cr n all base l (i + 1) s1
      | some ss => bindS (aseq P τ rn cf cr n all base l (i + 1)) ss
      | none => none))
theorem KnX.defer (h : KnX e n fr dm a) {f : FuncId} {x : X} {cap args : Array Value} (hx : denL e x = some (args.toList ++ cap.toList)) : KnX e n fr (.c f x :: dm) { a with defers := ⟨.fn (.func f) cap, args⟩ :: a.defers } :=
  ⟨⟨h.1.1, cap, args, a.defers, hx, rfl, h.1.2⟩, h.2⟩
theorem adf_ok {rn : Option Nat} (hrn : rn = none → ro = none) {s s1 : Sg} (hk : KnX e n s.fr s.dm a) (h : adf rn n o s = some s1) {K : Act → World → Prop} {Q : Exit → Act → World → Prop}
    (hK : ∀ a', s1.hp = s.hp → s1.nx = s.nx → KnX e n s1.fr s1.dm a' → K a' w) : if Region.wanted o (yielded all a.tmps) then o.wpIn (WF ro) 0 P a w K Q else (∀ f, o.about P w a.eval = some f → (WF ro).fn f) ∧ K (a.put o.dst undef) w := by
  unfold adf at h
  split at h
  · rename_i fo args tys hg hop
    obtain rfl := hrn rfl
    rw [if_pos (by simp [Region.wanted, hg])]
    split at h
    · rename_i f first cap as fr' hfo has hd hfr
      cases h
      obtain ⟨vf, f1, f2⟩ := ev_run hk hfo
      obtain ⟨vs, a1, a2⟩ := evs_run hk has
      simp only [den] at f1
      split at f1
      · rename_i lf lc hlf hlc
        cases f1
        have hden := xcat_den hlf (xcat_den a1 hlc)
        refine ⟨fun _ _ => trivial, ?_⟩
        have e0 : o.semAt (WF none).round a.eval = execOp a.eval o := Oper.semAt_none _ _
        rw [e0]
        obtain ⟨dst, op, type, pos, after, guard⟩ := o
        subst hop
        have e2 : (execOp a.eval ⟨dst, .defer ⟨.value fo, args, tys⟩, type, pos, after, guard⟩).run P w = .ok (.defer ⟨.fn (.func f) lc.toArray, lf.toArray ++ args.map a.eval⟩) w := by
          have e1 : execOp a.eval ⟨dst, .defer ⟨.value fo, args, tys⟩, type, pos, after, guard⟩ = (do pure (.defer (← resolve a.eval ⟨.value fo, args, tys⟩ type))) := rfl
          rw [e1]
          simp only [resolve, f2, Deferred.ofValue, Sem.run_bind, Sem.run_pure, Result.andThen_ok]
        rw [e2, Oper.uponIn_defer]
        refine hK _ rfl rfl ((hk.defer (f := f) (x := xcat first (xcat as cap)) (cap := lc.toArray) (args := lf.toArray ++ args.map a.eval) ?_).put (undX_den e) hd hfr)
        rw [hden, Array.toList_append, Array.toList_map, a2]
        simp [List.append_assoc]
      · cases f1
    · cases h
  · cases h
theorem aseq_ok (hτ : TyOk P τ) {rn : Option Nat} (hrn : rn = none → ro = none) {cf cr : CallF} {base size : Nat} {Q : Exit → Act → World → Prop} : ∀ {l : List Oper} {i : Nat} {e : Env} {U : Nat → Prop} {a : Act} {w : World} {s : Sg} {D : List Nat} {ss : List Sg}, CfOk P B e cf → CrOk P B e cr → i + l.length ≤ size → (∀ j ∈ D, j < i) → KnX e n s.fr s.dm a → Fit B e s.hp U w → Names U0 base size D U s.nx →
    aseq P τ rn cf cr n all base l i s = some ss → (∀ s' e' U' a' w' D', s' ∈ ss → e.le e' → KnX e' n s'.fr s'.dm a' → Fit B e' s'.hp U' w' → Names U0 base size D' U' s'.nx → (∀ j ∈ D', j < size) → Q .normal a' w') → wpListIn (WF ro) 0 P all Q l a w
  | [], i, e, U, a, w, s, D, ss, hcf, hcr, hl, hD, hk, hf, hN, h, hQ => by
    simp only [aseq, Option.some.injEq] at h
    subst h
    exact wpListIn_nil (hQ s e U a w D List.mem_cons_self (Env.le_refl e) hk hf hN fun j hj => by have := hD j hj; simp at hl; omega)
  | o :: l, i, e, U, a, w, s, D, ss, hcf, hcr, hl, hD, hk, hf, hN, h, hQ => by
    simp only [List.length_cons] at hl
    simp only [aseq] at h
    have next : ∀ {ss1 : List Sg}, aop P τ cf cr n all (base + i) o s = some ss1 → (∀ s1 ∈ ss1, ∃ r, aseq P τ rn cf cr n all base l (i + 1) s1 = some r ∧ ∀ x ∈ r, x ∈ ss) → wpListIn (WF ro) 0 P all Q (o :: l) a w := by
      intro ss1 h1 h2
      refine aop_ok hτ hcf hcr hk hf hN (fun j hj => by have := hD j hj; omega) (fun hi => by have := hD i hi; omega) (by omega) h1 fun s' e' U' v w' m1 m2 m3 m4 m5 => ?_
      obtain ⟨r, g1, g2⟩ := h2 s' m1
      refine aseq_ok hτ hrn (hcf.mono m2) (hcr.mono m2) (by omega) (fun j hj => ?_) m3 m4 m5 g1 fun s2 e2 U2 a2 w2 D2 k1 k2 k3 k4 k5 k6 => hQ s2 e2 U2 a2 w2 D2 (g2 _ k1) (Env.le_trans m2 k2) k3 k4 k5 k6
      rcases List.mem_cons.1 hj with rfl | hj
      · omega
      · have := hD j hj; omega
    split at h
    · rename_i s1 h1
      refine adf_ok hrn hk h1 fun a' g1 g2 g3 => ?_
      refine aseq_ok hτ hrn (D := i :: D) hcf hcr (by omega) (fun j hj => ?_) g3 (by rw [g1]; exact hf) (by rw [g2]; exact hN.skip) h hQ
      rcases List.mem_cons.1 hj with rfl | hj
      · omega
      · have := hD j hj; omega
    · split at h
      · rename_i s1 h1
        refine next h1 fun s2 hs2 => ?_
        obtain rfl := List.mem_singleton.1 hs2
        exact ⟨ss, h, fun x hx => hx⟩
      · rename_i ss1 _ h1
        exact next h1 fun s2 hs2 => bindS_mem h s2 hs2
      · cases h
end
end Go.AM
