/- The evaluator, part 15: code, loops over functions, calls. -/
import Derived.Test.YtmiekonofocboaaGreatDoorF14
import Derived.RangeFuncNested
set_option linter.unusedVariables false
set_option linter.unusedSectionVars false
set_option linter.unusedSimpArgs false
namespace Go.AM
open Go Go.RowKit Go.Eng

inductive Ex where
  | n
  | r
  | x (id : Nat)
abbrev Fin' := List (Ex × Sg)
def bindE (f : Sg → Option Fin') : Fin' → Option Fin'
  | [] => some []
  | (.n, s) :: l => (match f s, bindE f l with
    | some a, some b => some (a ++ b)
    | _, _ => none)
  | (.r, s) :: l => (match bindE f l with
    | some b => some ((.r, s) :: b)
    | none => none)
  | (.x id, s) :: l => (match bindE f l with
    | some b => some ((.x id, s) :: b)
    | none => none)
def seqE (f : Sg → Option Fin') : Option Fin' → Option Fin'
  | some [(.n, s)] => f s
  | some l => bindE f l
  | none => none
theorem seqE_mem {f : Sg → Option Fin'} {o : Option Fin'} {r : Fin'} (h : seqE f o = some r) : ∃ l, o = some l ∧ ∀ x s, (x, s) ∈ l → (x = .n ∧ ∃ a, f s = some a ∧ ∀ p ∈ a, p ∈ r) ∨ (x ≠ .n ∧ (x, s) ∈ r) := by
  have key : ∀ {l r : Fin'}, bindE f l = some r → ∀ x s, (x, s) ∈ l → (x = .n ∧ ∃ a, f s = some a ∧ ∀ p ∈ a, p ∈ r) ∨ (x ≠ .n ∧ (x, s) ∈ r) := by
    intro l
    induction l with
    | nil => intro r _ x s h; cases h
    | cons p l ih =>
      intro r h x s hm
      obtain ⟨y, t⟩ := p
      cases y with
      | n =>
        simp only [bindE] at h
        split at h
        · rename_i a b h1 h2
          cases h
          rcases List.mem_cons.1 hm with hm | hm
          · cases hm; exact .inl ⟨rfl, a, h1, fun p hp => List.mem_append_left _ hp⟩
          · rcases ih h2 x s hm with ⟨e, c, g1, g2⟩ | ⟨e, g⟩
            · exact .inl ⟨e, c, g1, fun p hp => List.mem_append_right _ (g2 p hp)⟩
            · exact .inr ⟨e, List.mem_append_right _ g⟩
        · cases h
      | r =>
        simp only [bindE] at h
        split at h
        · rename_i b h2
          cases h
          rcases List.mem_cons.1 hm with hm | hm
          · cases hm; exact .inr ⟨(fun h => nomatch h), List.mem_cons_self⟩
          · rcases ih h2 x s hm with ⟨e, c, g1, g2⟩ | ⟨e, g⟩
            · exact .inl ⟨e, c, g1, fun p hp => List.mem_cons_of_mem _ (g2 p hp)⟩
            · exact .inr ⟨e, List.mem_cons_of_mem _ g⟩
        · cases h
      | x id =>
        simp only [bindE] at h
        split at h
        · rename_i b h2
          cases h
          rcases List.mem_cons.1 hm with hm | hm
          · cases hm; exact .inr ⟨(fun h => nomatch h), List.mem_cons_self⟩
          · rcases ih h2 x s hm with ⟨e, c, g1, g2⟩ | ⟨e, g⟩
            · exact .inl ⟨e, c, g1, fun p hp => List.mem_cons_of_mem _ (g2 p hp)⟩
            · exact .inr ⟨e, List.mem_cons_of_mem _ g⟩
        · cases h
  unfold seqE at h
  split at h
  · rename_i s0
    refine ⟨_, rfl, fun x s hm => ?_⟩
    cases List.mem_singleton.1 hm
    exact .inl ⟨rfl, r, h, fun p hp => hp⟩
  · exact ⟨_, rfl, key h⟩
  · cases h
def unblock (id : Nat) : Ex → Ex
  | .x id' => (match Nat.beq id' id with
    | true => .n
    | false => .x id')
  | x => x
def normS : Option (List Sg) → Option Fin'
  | some l => some (l.map fun s => (.n, s))
  | none => none
/-- Round: a loop's variables are put, its assignments and its body carried out. -/
def putArgs (n : Nat) : List Tmp → X → Tr X → Option (Tr X)
  | [], .nl, fr => some fr
  | p :: ps, .cs x as, fr => (match Nat.blt p n, put 40 fr p (some x) with
    | true, some fr' => putArgs n ps as fr'
    | _, _ => none)
  | _, _, _ => none
def endBlk (fr : Tr X) (n df : Nat) : Ex → Blk
  | .n => .lp fr n .ready none df
  | .r => .lp fr n .done (some none) df
  | .x id => .lp fr n .done (some (some id)) df
def endV : Ex → Bool
  | .n => true
  | _ => false
def endRd (l : Nat) : Fin' → Option Outs
  | [] => some []
  | (x, s) :: r => (match find s.hp l, endRd l r with
    | some (.lp fr n st pend df), some outs => (match put 40 s.hp l (some (endBlk fr n df x)) with
      | some hp' => some ((.b (endV x), hp', s.nx) :: outs)
      | none => none)
    | _, _ => none)
def beginRd (l : Nat) (s : Sg) : Option Sg :=
  match find s.hp l with
  | some (.lp fr n .ready pend df) => (match put 40 s.hp l (some (.lp fr n .busy pend df)) with
    | some hp' => some ⟨s.fr, s.dm, hp', s.nx⟩
    | none => none)
  | _ => none
def roundA (run : Code → Sg → Option Fin') (n l : Nat) (ps : List Tmp) (assign body : Code) (as : X) (hp : Hp) (nx : Nat) : Option Outs :=
  match find hp l with
  | some (.lp fr n' .ready pend df) => (match Nat.beq n' n, putArgs n ps as fr with
    | true, some fr' => (match seqE (fun s1 => match beginRd l s1 with
        | some s2 => run body s2
        | none => none) (match run assign ⟨fr', [], hp, nx⟩ with
          | some [(.n, s1)] => some [(.n, s1)]
          | _ => none) with
      | some outs => endRd l outs
      | none => none)
    | _, _ => none)
  | _ => none
def notBusy : LoopState → Bool
  | .busy => false
  | _ => true
def pendE : Option (Option Nat) → Ex
  | none => .n
  | some none => .r
  | some (some id) => .x id
def endLp (l nx0 : Nat) (fr : Tr X) (dm : List DM) : Outs → Option Fin'
  | [] => some []
  | (_, hp, nx) :: r => (match find hp l, endLp l nx0 fr dm r with
    | some (.lp _ _ st pend df), some outs => (match notBusy st, Nat.ble nx0 nx, put 40 hp l none with
      | true, true, some hp' => some ((pendE pend, ⟨fr, dm, hp', nx⟩) :: outs)
      | _, _, _ => none)
    | _, _ => none)
/-- The record of a loop over a function is laid. -/
def enterLp (ro : Option Nat) (n : Nat) (s : Sg) : Option Sg :=
  match ro with
  | none => (match put 40 s.hp s.nx (some .df) with
    | some hp1 => (match put 40 hp1 (s.nx + 1) (some (.lp s.fr n .ready none s.nx)) with
      | some hp2 => some ⟨s.fr, .m s.nx :: s.dm, hp2, s.nx + 2⟩
      | none => none)
    | none => none)
  | some l0 => (match find s.hp l0 with
    | some (.lp _ _ _ _ df0) => (match put 40 s.hp (s.nx + 1) (some (.lp s.fr n .ready none df0)) with
      | some hp2 => some ⟨s.fr, s.dm, hp2, s.nx + 2⟩
      | none => none)
    | _ => none)
def aexec (P : Program) (τ : Ty) (call : CallF → CallF) (pl : Nat → AP) (n : Nat) : Nat → CallF → Option Nat → Code → Sg → Option Fin'
  | 0, _, _, _, _ => none
  | k + 1, cr, ro, c, s => match c with
    | .skip => some [(.n, s)]
    | .ret => some [(.r, s)]
    | .exit id => some [(.x id, s)]
    | .label _ => some [(.n, s)]
    | .scope c => aexec P τ call pl n k cr ro c s
    | .seq x y => seqE (aexec P τ call pl n k cr ro y) (aexec P τ call pl n k cr ro x s)
    | .cond c x y => (match ev s.fr c with
      | some (.b true) => aexec P τ call pl n k cr ro x s
      | some (.b false) => aexec P τ call pl n k cr ro y s
      | _ => none)
    | .block id c => (match aexec P τ call pl n k cr ro c s with
      | some [(x, s')] => some [(unblock id x, s')]
      | some l => some (l.map fun p => (unblock id p.1, p.2))
      | none => none)
    | .loop c => seqE (aexec P τ call pl n k cr ro (.loop c)) (aexec P τ call pl n k cr ro c s)
    | .region _ ops false => normS (aseq P τ ro (call cr) cr n ops s.nx ops.toList 0 ⟨s.fr, s.dm, s.hp, s.nx + ops.size⟩)
    | .region id ops true => normS (apl P τ (call cr) cr n ops s.nx (pl id) ⟨s.fr, s.dm, s.hp, s.nx + ops.size⟩)
    | .rangeFunc g ps assign body => (match ev s.fr g, enterLp ro n s with
      | some (.f (.func gf) .nl cap), some s1 => (match call (fun id as hp nx => match Nat.beq id (s.nx + 1) with
          | true => roundA (aexec P τ call pl n k cr (some (s.nx + 1))) n (s.nx + 1) ps.toList assign body as hp nx
          | false => cr id as hp nx) gf (.cs (.fy (s.nx + 1)) cap) s1.hp s1.nx with
        | some outs => endLp (s.nx + 1) s1.nx s1.fr s1.dm outs
        | none => none)
      | _, _ => none)
    | _ => none
/-- Every region of this code that draws its order has a plan that holds. -/
def codeOK (pl : Nat → AP) : Code → Bool
  | .region id ops true => drawOK ops && apOK ops [] [] (pl id) && !chainy (pl id)
  | .seq a b => codeOK pl a && codeOK pl b
  | .cond _ a b => codeOK pl a && codeOK pl b
  | .block _ c => codeOK pl c
  | .loop c => codeOK pl c
  | .scope c => codeOK pl c
  | .rangeFunc _ _ a b => codeOK pl a && codeOK pl b
  | _ => true
section
variable {P : Program} {B : World} {n : Nat} {τ : Ty} {pl : Nat → AP} {call : CallF → CallF}
/-- An end of code, as the evaluator has it. -/
def exE : Exit → Option Ex
  | .normal => some .n
  | .ret => some .r
  | .exit id => some (.x id)
  | _ => none
/-- Where code ends: in one of these ways. -/
def Post (B : World) (n : Nat) (e : Env) (U : Nat → Prop) (nx : Nat) (outs : Fin') (ex : Exit) (a : Act) (w : World) : Prop :=
  ∃ x s e' U', exE ex = some x ∧ (x, s) ∈ outs ∧ e.le e' ∧ KnX e' n s.fr s.dm a ∧ Fit B e' s.hp U' w ∧ nx ≤ s.nx ∧ ∀ id, U' id → U id ∨ (nx ≤ id ∧ id < s.nx)
theorem Post.trans {e e1 : Env} {U U1 : Nat → Prop} {nx nx1 : Nat} {outs outs' : Fin'} {ex : Exit} {a : Act} {w : World} (h : Post B n e1 U1 nx1 outs ex a w) (he : e.le e1) (hn : nx ≤ nx1) (hU : ∀ id, U1 id → U id ∨ (nx ≤ id ∧ id < nx1)) (ho : ∀ p ∈ outs, p ∈ outs') : Post B n e U nx outs' ex a w := by
  obtain ⟨x, s, e', U', h1, h2, h3, h4, h5, h6, h7⟩ := h
  refine ⟨x, s, e', U', h1, ho _ h2, Env.le_trans he h3, h4, h5, Nat.le_trans hn h6, fun id hid => ?_⟩
  rcases h7 id hid with h | ⟨g1, g2⟩
  · rcases hU id h with h | ⟨g1, g2⟩
    · exact .inl h
    · exact .inr ⟨g1, by omega⟩
  · exact .inr ⟨by omega, g2⟩
theorem stepR_scope {b : Frame} {a : Act} {k : List Item} {cs : List Frame} {w : World} {c : Code} : step P (lone (b.atR a (.code (.scope c) :: k)) cs w) = .next (lone (b.atR a (.code c :: .inScope c :: k)) cs w) :=
  step_lone_go (by simp [stepG, stepG.exec, Frame.atR])
theorem stepR_inScope {b : Frame} {a : Act} {k : List Item} {cs : List Frame} {w : World} {c : Code} : step P (lone (b.atR a (.inScope c :: k)) cs w) = .next (lone (b.atR a k) cs w) :=
  step_lone_go (by simp [stepG, stepG.exec, Frame.atR])
/-- A scope through which nothing jumps. -/
theorem wpIn_scope {F : Fence} {m : Nat} {c : Code} {Q : Exit → Act → World → Prop} {a : Act} {w : World} (h : c.wpIn F m P (fun e a w => Q e a w ∧ ∀ l, e ≠ .goto l) a w) : (Code.scope c).wpIn F m P Q a w := by
  intro b k cs hro hb hr
  have h0 : (lone (b.atR a (.code (.scope c) :: k)) cs w).fenced P F := fenced_calm hb hr rfl
  obtain ⟨e, a₁, w₁, ⟨hq, hg⟩, harr⟩ := h b (.inScope c :: k) cs hro hb hr
  cases e with
  | normal => exact ⟨.normal, a₁, w₁, hq, .head h0 stepR_scope (StepsIn.trans harr (.one (fenced_calm hb hr rfl) stepR_inScope))⟩
  | exit id =>
    have hx : exitTo id (.inScope c :: k) = exitTo id k := by simp [exitTo]
    exact ⟨.exit id, a₁, w₁, hq, fun k' hk => .head h0 stepR_scope (harr.1 k' (by rw [hx]; exact hk)),
      fun hr' hk => let ⟨k₁, h1, h2⟩ := harr.2 hr' (by rw [hx]; exact hk); ⟨k₁, h1, .head h0 stepR_scope h2⟩⟩
  | goto l => exact absurd rfl (hg l)
  | ret => exact ⟨_, a₁, w₁, hq, .of_steps (.one h0 stepR_scope) harr⟩
  | panic ch => exact ⟨_, a₁, w₁, hq, .of_steps (.one h0 stepR_scope) harr⟩
  | outgrown => exact ⟨_, a₁, w₁, hq, .of_steps (.one h0 stepR_scope) harr⟩
def WpX (F : Fence) (m : Nat) (P : Program) (c : Code) (Q : Exit → Act → World → Prop) (a : Act) (w : World) : Prop :=
  ∀ (b : Frame) (k : List Item) (cs : List Frame), b.roundOf = F.round → F.fn b.fn → F.room (cs.length + 1 + m) →
    ∃ e a' w', Q e a' w' ∧ ArrivesIn (Machine.fenced P F) P (lone (b.atR a (.code c :: .inLoop c :: k)) cs w) b k cs e a' w'
theorem WpX.loop {F : Fence} {m : Nat} {c : Code} {Q : Exit → Act → World → Prop} {a : Act} {w : World} (h : WpX F m P c Q a w) : (Code.loop c).wpIn F m P Q a w := by
  intro b k cs hro hb hr
  obtain ⟨e, a', w', hq, harr⟩ := h b k cs hro hb hr
  exact ⟨e, a', w', hq, .of_steps (.one (fenced_calm hb hr rfl) stepR_loop) harr⟩
theorem WpX.round {F : Fence} {m : Nat} {c : Code} {Q : Exit → Act → World → Prop} {a : Act} {w : World} (h : c.wpIn F m P (Exit.then (WpX F m P c Q) Q) a w) : WpX F m P c Q a w := by
  intro b k cs hro hb hr
  obtain ⟨e, a₁, w₁, hq, harr⟩ := h b (.inLoop c :: k) cs hro hb hr
  cases e with
  | normal =>
    obtain ⟨e₂, a₂, w₂, hq₂, harr₂⟩ := hq b k cs hro hb hr
    exact ⟨e₂, a₂, w₂, hq₂, .of_steps (StepsIn.trans harr (.one (fenced_calm hb hr rfl) stepR_inLoop)) harr₂⟩
  | exit id => exact ⟨_, a₁, w₁, hq, .pass (x := .inLoop c) rfl (fun _ _ => .inl (by simp)) harr⟩
  | goto l => exact ⟨_, a₁, w₁, hq, .pass (x := .inLoop c) rfl (fun _ _ => .inl (by simp)) harr⟩
  | ret => exact ⟨_, a₁, w₁, hq, .pass (x := .inLoop c) rfl (fun _ _ => .inl (by simp)) harr⟩
  | panic ch => exact ⟨_, a₁, w₁, hq, .pass (x := .inLoop c) rfl (fun _ _ => .inl (by simp)) harr⟩
  | outgrown => exact ⟨_, a₁, w₁, hq, .pass (x := .inLoop c) rfl (fun _ _ => .inl (by simp)) harr⟩
/-- One piece of code behind another. -/
theorem then_ok {F : Fence} {c : Code} {e : Env} {U : Nat → Prop} {a : Act} {w : World} {s : Sg} {l outs : Fin'} {f : Sg → Option Fin'} (h : c.wpIn F 0 P (Post B n e U s.nx l) a w) (hl : ∀ x t, (x, t) ∈ l → (x = .n ∧ ∃ r, f t = some r ∧ ∀ p ∈ r, p ∈ outs) ∨ (x ≠ .n ∧ (x, t) ∈ outs))
    {K : Act → World → Prop} (hK : ∀ t r e' U' a' w', f t = some r → (∀ p ∈ r, p ∈ outs) → e.le e' → KnX e' n t.fr t.dm a' → Fit B e' t.hp U' w' → s.nx ≤ t.nx → (∀ id, U' id → U id ∨ (s.nx ≤ id ∧ id < t.nx)) → K a' w') : c.wpIn F 0 P (Exit.then K (Post B n e U s.nx outs)) a w := by
  refine wpIn_mono h ?_
  rintro ex a' w' ⟨x, t, e', U', h1, h2, h3, h4, h5, h6, h7⟩
  rcases hl x t h2 with ⟨rfl, r, g1, g2⟩ | ⟨g1, g2⟩
  · cases ex <;> simp only [exE] at h1 <;> first | (cases h1; done) | skip
    exact hK t r e' U' a' w' g1 g2 h3 h4 h5 h6 h7
  · cases ex <;> simp only [exE, Option.some.injEq] at h1 <;> first | (cases h1; done) | skip
    · exact absurd h1.symm g1
    · exact ⟨x, t, e', U', by simpa [exE] using h1, g2, h3, h4, h5, h6, h7⟩
    · exact ⟨x, t, e', U', by simpa [exE] using h1, g2, h3, h4, h5, h6, h7⟩
end
end Go.AM
