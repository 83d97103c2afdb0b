/- The evaluator, part 17: code, all of it. -/
import Derived.Test.YtmiekonofocboaaGreatDoorF16
set_option linter.unusedVariables false
set_option linter.unusedSectionVars false
set_option linter.unusedSimpArgs false
namespace Go.AM
open Go Go.RowKit Go.Eng
section
variable {P : Program} {B : World} {n : Nat} {τ : Ty} {pl : Nat → AP} {call : CallF → CallF}
theorem endLp_mem {l nx0 : Nat} {fr : Tr X} {dm : List DM} : ∀ {outs : Outs} {r : Fin'}, endLp l nx0 fr dm outs = some r → ∀ y hp nx, (y, hp, nx) ∈ outs → ∃ fr1 n1 st pend df hp', find hp l = some (.lp fr1 n1 st pend df) ∧ st ≠ .busy ∧ put 40 hp l none = some hp' ∧ (pendE pend, (⟨fr, dm, hp', nx⟩ : Sg)) ∈ r ∧ nx0 ≤ nx
  | [], _, _, _, _, _, h => nomatch h
  | (y0, hp0, nx1) :: o, r, h, y, hp, nx, hm => by
    simp only [endLp] at h
    split at h
    · rename_i fr1 n1 st pend df outs' h1 h2
      split at h
      · rename_i hp' hst hn hput
        cases h
        rcases List.mem_cons.1 hm with hm | hm
        · cases hm
          exact ⟨fr1, n1, st, pend, df, hp', h1, (fun e => by rw [e] at hst; cases hst), hput, List.mem_cons_self, by simpa using hn⟩
        · obtain ⟨a1, a2, a3, a4, a5, a6, g1, g2, g3, g4, g5⟩ := endLp_mem h2 _ _ _ hm
          exact ⟨a1, a2, a3, a4, a5, a6, g1, g2, g3, List.mem_cons_of_mem _ g4, g5⟩
      · cases h
    · cases h
theorem WF_inRound (b : Nat) : WF (some b) = Fence.wide.inRound b := rfl
theorem range_ok {run : CallF → Option Nat → Code → Sg → Option Fin'} (hrun : RunOk P B n pl run) (hcall : CallGood P B call) {cr : CallF} {ro : Option Nat} {g : Operand} {ps : Array Tmp} {assign body : Code} (hca : codeOK pl assign = true) (hcb : codeOK pl body = true)
    {s s1 : Sg} {e : Env} {U : Nat → Prop} {a : Act} {w : World} (hcr : CrOk P B e cr) (hro : RoOk e ro) (hk : KnX e n s.fr s.dm a) (hf : Fit B e s.hp U w) (hnx : ∀ id, s.nx ≤ id → ¬ U id)
    {gf : FuncId} {cap : X} {outs : Outs} {r : Fin'} (hg : ev s.fr g = some (.f (.func gf) .nl cap)) (hent : enterLp ro n s = some s1)
    (hc : call (fun id as hp nx => match Nat.beq id (s.nx + 1) with
          | true => roundA (run cr (some (s.nx + 1))) n (s.nx + 1) ps.toList assign body as hp nx
          | false => cr id as hp nx) gf (.cs (.fy (s.nx + 1)) cap) s1.hp s1.nx = some outs) (he : endLp (s.nx + 1) s1.nx s1.fr s1.dm outs = some r) :
    (Code.rangeFunc g ps assign body).wpIn (WF (roB e ro)) 0 P (Post B n e U s.nx r) a w := by
  obtain ⟨vg, g1, g2⟩ := ev_run hk hg
  simp only [den, denL] at g1
  split at g1
  · rename_i lf lc hlf hlc
    cases hlf
    cases g1
    refine wpIn_rangeFunc fun fn _ => ?_
    -- the record is laid
    have hlay : ∃ (w1 : World) (z : EE) (e1 : Env) (U1 : Nat → Prop) (mark : List Deferred), (Instr.enterLoop fn a.tmps ps assign body (roB e ro)).run P w = .ok (z.b, mark) w1 ∧ e.le e1 ∧ e1 (s.nx + 1) = some z ∧ z.lc = some (fn, ps, assign, body) ∧ KnX e1 n s1.fr s1.dm { a with defers := mark ++ a.defers } ∧ Fit B e1 s1.hp U1 w1 ∧ s1.nx = s.nx + 2 ∧
        (∀ id, U1 id → U id ∨ (s.nx ≤ id ∧ id < s1.nx)) := by
      cases ro with
      | none =>
        simp only [enterLp] at hent
        split at hent
        · rename_i hp1 hput1
          split at hent
          · rename_i hp2 hput2
            cases hent
            have hi1 : ¬ U s.nx := hnx _ (Nat.le_refl _)
            have hf1 := hf.alloc (z := ⟨w.heap.size, 0, 0, 0, none, undef⟩) (w' := w.alloc (.deferred (some []))) (bl := .df) hi1 (step_alloc _ _) (Nat.le_refl _) (alloc_new _ _) rfl hput1
            have hle1 := Env.le_add (z := ⟨w.heap.size, 0, 0, 0, none, undef⟩) (hf.nix hi1)
            have hi2 : ¬ (U (s.nx + 1) ∨ s.nx + 1 = s.nx) := by
              rintro (h | h)
              · exact hnx _ (by omega) h
              · omega
            have hle2 := Env.le_add (z := ⟨w.heap.size + 1, 0, 0, 0, some (fn, ps, assign, body), undef⟩) (hf1.nix hi2)
            have hf2 := hf1.alloc (z := ⟨w.heap.size + 1, 0, 0, 0, some (fn, ps, assign, body), undef⟩) (w' := (w.alloc (.deferred (some []))).alloc (.loop { state := .ready, pending := none, fn := fn, tmps := a.tmps, params := ps, assign := assign, body := body, defers := w.heap.size })) (bl := .lp s.fr n .ready none s.nx) hi2 (step_alloc _ _) (by simp)
              (by rw [show w.heap.size + 1 = (w.alloc (.deferred (some []))).heap.size by simp]; exact alloc_new _ _)
              ⟨fn, ps, assign, body, a.tmps, ⟨w.heap.size, 0, 0, 0, none, undef⟩, rfl, hle2 _ _ (Env.add_self _ _), (hk.2.mono hle1).mono hle2, rfl⟩ hput2
            refine ⟨_, ⟨w.heap.size + 1, 0, 0, 0, some (fn, ps, assign, body), undef⟩, _, _, [{ target := .collected w.heap.size, args := #[] }], run_enterLoop_outer _ _ _ _ _, Env.le_trans hle1 hle2, Env.add_self _ _, rfl, ⟨?_, (hk.2.mono hle1).mono hle2⟩, hf2, rfl, fun id hid => ?_⟩
            · exact ⟨(hk.1.1.mono hle1).mono hle2, ⟨w.heap.size, 0, 0, 0, none, undef⟩, a.defers, hle2 _ _ (Env.add_self _ _), rfl, (hk.1.2.mono hle1).mono hle2⟩
            · rcases hid with (h | h) | h
              · exact .inl h
              · exact .inr ⟨by omega, by show id < s.nx + 2; omega⟩
              · exact .inr ⟨by omega, by show id < s.nx + 2; omega⟩
          · cases hent
        · cases hent
      | some l0 =>
        simp only [enterLp] at hent
        split at hent
        · rename_i fr0 n0 st0 pend0 df0 hb0
          split at hent
          · rename_i hp2 hput2
            cases hent
            have hl0 : ∃ z0, e l0 = some z0 := by
              cases hh : e l0 with
              | none => exact absurd hh hro
              | some z => exact ⟨z, rfl⟩
            obtain ⟨z0, hz0⟩ := hl0
            obtain ⟨fn', ps', as', bd', tmps0, zd0, p2, p3, p4, p1⟩ := hf.lp hb0 hz0
            have hi2 : ¬ U (s.nx + 1) := hnx _ (by omega)
            have hle2 := Env.le_add (z := ⟨w.heap.size, 0, 0, 0, some (fn, ps, assign, body), undef⟩) (hf.nix hi2)
            have hf2 := hf.alloc (z := ⟨w.heap.size, 0, 0, 0, some (fn, ps, assign, body), undef⟩) (w' := w.alloc (.loop { state := .ready, pending := none, fn := fn, tmps := a.tmps, params := ps, assign := assign, body := body, defers := zd0.b })) (bl := .lp s.fr n .ready none df0) hi2 (step_alloc _ _) (Nat.le_refl _) (alloc_new _ _)
              ⟨fn, ps, assign, body, a.tmps, zd0, rfl, hle2 _ _ p3, hk.2.mono hle2, rfl⟩ hput2
            have hroB : roB e (some l0) = some z0.b := by simp [roB, hz0]
            refine ⟨_, ⟨w.heap.size, 0, 0, 0, some (fn, ps, assign, body), undef⟩, _, _, [], ?_, hle2, Env.add_self _ _, rfl, ⟨⟨hk.1.1.mono hle2, by simpa using hk.1.2.mono hle2⟩, hk.2.mono hle2⟩, hf2, rfl, fun id hid => ?_⟩
            · rw [hroB]; exact run_enterLoop_inner p1 _ _ _ _ _
            · rcases hid with h | h
              · exact .inl h
              · exact .inr ⟨by omega, by show id < s.nx + 2; omega⟩
          · cases hent
        · cases hent
    obtain ⟨w1, z, e1, U1, mark, l1, l2, l3, l4, l5, l6, l7, l8⟩ := hlay
    have hnx1 : ∀ id, s1.nx ≤ id → ¬ U1 id := fresh_after hnx (by omega) l8
    have hcr1 : CrOk P B e1 (fun id as hp nx => match Nat.beq id (s.nx + 1) with
          | true => roundA (run cr (some (s.nx + 1))) n (s.nx + 1) ps.toList assign body as hp nx
          | false => cr id as hp nx) := by
      intro id as hp nx outs e2 U2 w2 vs zz hle h hf2 hnx2 hv hzz
      dsimp only at h
      split at h
      · rename_i hid
        have hid := beqT.1 hid
        subst hid
        have : e2 (s.nx + 1) = some z := hle _ _ l3
        rw [this] at hzz
        cases hzz
        obtain ⟨tmps, y1, y2⟩ := roundA_ok hrun hca hcb (hcr.mono (Env.le_trans l2 hle)) hf2 hnx2 hv this l4 h
        exact ⟨fn, tmps, assign, body, y1, y2⟩
      · exact hcr _ _ _ _ _ _ _ _ _ _ (Env.le_trans l2 hle) h hf2 hnx2 hv hzz
    have hden : denL e1 (.cs (.fy (s.nx + 1)) cap) = some (.func (.yield z.b) #[] #[] :: lc) := by simp only [denL, den, l3, denLM l2 hlc]
    obtain ⟨⟨fg, hfg, hbody, hname⟩, hcalls⟩ := hcall e1 _ hcr1 _ _ _ _ _ _ _ _ _ (Env.le_refl e1) hc l6 hnx1 hden
    have hb : fg.body.isNone = false := by cases hh : fg.body <;> simp_all
    refine ⟨z.b, mark, w1, { target := .fn (.func gf) lc.toArray, args := #[.func (.yield z.b) #[] #[]] }, w1, gf, (.func (.yield z.b) #[] #[] :: lc).toArray, w1, l1, ?_, fun _ _ => trivial, ?_, (fun h => by simp [WF, Fence.wide] at h), ?_⟩
    · simp only [resolve, g2]
      simp [go_sem]
    · simp only [invoke, callFunc]
      simp only [program, Sem.run, Sem.run_bind, Result.andThen_ok, hfg, hname, hb, Bool.false_eq_true, if_false]
      have ht : (#[.func (.yield z.b) #[] #[]] : Array Value) ++ lc.toArray = (.func (.yield z.b) #[] #[] :: lc).toArray := by
        apply Array.ext'; simp
      rw [ht]
      rfl
    · have hc2 : CallsIn (WF (roB e ro)) 0 P gf (.func (.yield z.b) #[] #[] :: lc).toArray w1 (CallPost B e1 U1 s1.nx outs) := hcalls
      refine hc2.mono ?_
      rintro en w3 ⟨y, hp', nx', e3, v, m1, rfl, m3, m4, m5⟩
      obtain ⟨fr1, n1, st, pend, df, hp3, q1, q2, q3, q4, hmono⟩ := endLp_mem he _ _ _ m1
      have hz3 := m3 _ _ l3
      obtain ⟨fnx, psx, asx, bdx, tm2, zd2, t2, t3, t4, t1⟩ := m5.lp q1 hz3
      rw [l4] at t2
      cases t2
      have hend := run_endLoop (P := P) t1 q2
      have hdrop := (m5.drop q3).world (step_putObj w3 z.b (.loop { state := .exhausted, pending := jumpC pend, fn := fn, tmps := tm2, params := ps, assign := assign, body := body, defers := zd2.b })) (fun b hb => by
        cases hb
        refine ⟨m5.own _ _ _ q1 hz3 rfl, loop_noIter t1, fun id bl z' hbl hz' hzz => ?_⟩
        rw [put_find _ _ _ _ _ q3] at hbl
        split at hbl
        · cases hbl
        · rename_i hne; exact hne (m5.inj _ _ _ _ _ _ hbl q1 hz' hz3 hzz))
      have post : ∀ {ex : Exit} {x : Ex}, exE ex = some x → (x, (⟨s1.fr, s1.dm, hp3, nx'⟩ : Sg)) ∈ r → s1.nx ≤ nx' → Post B n e U s.nx r ex { a with defers := mark ++ a.defers } (w3.putObj z.b (.loop { state := .exhausted, pending := jumpC pend, fn := fn, tmps := tm2, params := ps, assign := assign, body := body, defers := zd2.b })) := by
        intro ex x hx hm hn
        refine ⟨x, _, e3, _, hx, hm, Env.le_trans l2 m3, l5.mono m3, hdrop, by show s.nx ≤ nx'; omega, fun id hid => ?_⟩
        rcases hid with h | ⟨h1, h2⟩
        · rcases l8 id h with h | ⟨h1, h2⟩
          · exact .inl h
          · exact .inr ⟨h1, by show id < nx'; omega⟩
        · exact .inr ⟨by omega, h2⟩
      cases pend with
      | none => exact ⟨none, _, hend, post (ex := .normal) rfl q4 hmono⟩
      | some j =>
        cases j with
        | none => exact ⟨some .ret, _, hend, wpIn_ret (post (ex := .ret) rfl q4 hmono)⟩
        | some id => exact ⟨some (.exit id), _, hend, wpIn_exit (post (ex := .exit id) rfl q4 hmono)⟩
  · cases g1
theorem loops_ok {k : Nat} (hrun : RunOk P B n pl (aexec P τ call pl n k)) (hx : ∀ cr ro c s outs e U a w, CrOk P B e cr → RoOk e ro → codeOK pl c = true → KnX e n s.fr s.dm a → Fit B e s.hp U w → (∀ id, s.nx ≤ id → ¬ U id) → aexec P τ call pl n k cr ro (.loop c) s = some outs → WpX (WF (roB e ro)) 0 P c (Post B n e U s.nx outs) a w) :
    ∀ cr ro c s outs e U a w, CrOk P B e cr → RoOk e ro → codeOK pl c = true → KnX e n s.fr s.dm a → Fit B e s.hp U w → (∀ id, s.nx ≤ id → ¬ U id) → aexec P τ call pl n (k + 1) cr ro (.loop c) s = some outs → WpX (WF (roB e ro)) 0 P c (Post B n e U s.nx outs) a w := by
  intro cr ro c s outs e U a w hcr hro hc hk hf hnx h
  simp only [aexec] at h
  obtain ⟨l, q1, q2⟩ := seqE_mem h
  refine WpX.round (then_ok (hrun cr ro c s l e U a w hcr hro hc hk hf hnx q1) q2 ?_)
  intro t r e' U' a' w' p1 p2 p3 p4 p5 p6 p7
  obtain ⟨b1, b2⟩ := roB_mono p3 hro
  have := hx cr ro c t r e' U' a' w' (hcr.mono p3) b2 hc p4 p5 (fresh_after hnx p6 p7) p1
  rw [b1] at this
  intro b kk cs h1 h2 h3
  obtain ⟨en, a2, w2, hq, harr⟩ := this b kk cs h1 h2 h3
  exact ⟨en, a2, w2, hq.trans p3 p6 p7 p2, harr⟩
theorem aexec_ok (hm : P.follows .mixedOrders = true) (hτ : TyOk P τ) (hcall : CallGood P B call) : ∀ k, RunOk P B n pl (aexec P τ call pl n k) ∧ (∀ cr ro c s outs e U a w, CrOk P B e cr → RoOk e ro → codeOK pl c = true → KnX e n s.fr s.dm a → Fit B e s.hp U w → (∀ id, s.nx ≤ id → ¬ U id) → aexec P τ call pl n k cr ro (.loop c) s = some outs → WpX (WF (roB e ro)) 0 P c (Post B n e U s.nx outs) a w)
  | 0 => ⟨fun cr ro c s outs e U a w _ _ _ _ _ _ h => (nomatch h), fun cr ro c s outs e U a w _ _ _ _ _ _ h => (nomatch h)⟩
  | k + 1 => by
    obtain ⟨ih, ihx⟩ := aexec_ok hm hτ hcall k
    have hloop := loops_ok ih ihx
    refine ⟨?_, hloop⟩
    intro cr ro c s outs e U a w hcr hro hc hk hf hnx h
    have self : ∀ {x : Ex} {ex : Exit}, exE ex = some x → outs = [(x, s)] → Post B n e U s.nx outs ex a w := by
      rintro x ex hx rfl
      exact ⟨x, s, e, U, hx, List.mem_cons_self, Env.le_refl e, hk, hf, Nat.le_refl _, fun id h => .inl h⟩
    cases c with
    | skip => simp only [aexec, Option.some.injEq] at h; exact wpIn_skip (self (ex := .normal) rfl h.symm)
    | ret => simp only [aexec, Option.some.injEq] at h; exact wpIn_ret (self (ex := .ret) rfl h.symm)
    | exit id => simp only [aexec, Option.some.injEq] at h; exact wpIn_exit (self (ex := .exit id) rfl h.symm)
    | label id => simp only [aexec, Option.some.injEq] at h; exact wpIn_label (self (ex := .normal) rfl h.symm)
    | scope c =>
      simp only [aexec] at h
      simp only [codeOK] at hc
      exact wpIn_scope (wpIn_mono (ih cr ro c s outs e U a w hcr hro hc hk hf hnx h) fun ex a' w' hq => ⟨hq, fun l hl => by subst hl; obtain ⟨x, t, e', U', h1, _⟩ := hq; cases h1⟩)
    | seq x y =>
      simp only [aexec] at h
      simp only [codeOK, Bool.and_eq_true] at hc
      obtain ⟨l, q1, q2⟩ := seqE_mem h
      refine wpIn_seq (then_ok (ih cr ro x s l e U a w hcr hro hc.1 hk hf hnx q1) q2 ?_)
      intro t r e' U' a' w' p1 p2 p3 p4 p5 p6 p7
      obtain ⟨b1, b2⟩ := roB_mono p3 hro
      have := ih cr ro y t r e' U' a' w' (hcr.mono p3) b2 hc.2 p4 p5 (fresh_after hnx p6 p7) p1
      rw [b1] at this
      exact wpIn_mono this fun ex a2 w2 hq => hq.trans p3 p6 p7 p2
    | cond c x y =>
      simp only [aexec] at h
      simp only [codeOK, Bool.and_eq_true] at hc
      split at h
      · rename_i he
        obtain ⟨v, h1, h2⟩ := ev_run hk he
        simp only [den, Option.some.injEq] at h1
        subst h1
        exact wpIn_cond_true h2 (ih cr ro x s outs e U a w hcr hro hc.1 hk hf hnx h)
      · rename_i he
        obtain ⟨v, h1, h2⟩ := ev_run hk he
        simp only [den, Option.some.injEq] at h1
        subst h1
        exact wpIn_cond_false h2 (ih cr ro y s outs e U a w hcr hro hc.2 hk hf hnx h)
      · cases h
    | block id c =>
      simp only [aexec] at h
      simp only [codeOK] at hc
      have key : ∀ l, aexec P τ call pl n k cr ro c s = some l → (∀ p ∈ l, (unblock id p.1, p.2) ∈ outs) → (Code.block id c).wpIn (WF (roB e ro)) 0 P (Post B n e U s.nx outs) a w := by
        intro l hl ho
        refine wpIn_block (wpIn_mono (ih cr ro c s l e U a w hcr hro hc hk hf hnx hl) ?_)
        rintro ex a' w' ⟨x, t, e', U', h1, h2, h3⟩
        have h2' := ho _ h2
        cases ex with
        | normal => simp only [exE, Option.some.injEq] at h1; subst h1; exact ⟨.n, t, e', U', rfl, h2', h3⟩
        | ret => simp only [exE, Option.some.injEq] at h1; subst h1; exact ⟨.r, t, e', U', rfl, h2', h3⟩
        | exit id' =>
          simp only [exE, Option.some.injEq] at h1
          subst h1
          simp only [unblock] at h2'
          show if id' = id then _ else _
          split at h2'
          · rename_i e1; rw [if_pos (beqT.1 e1)]; exact ⟨.n, t, e', U', rfl, h2', h3⟩
          · rename_i e1; rw [if_neg (beqF.1 e1)]; exact ⟨.x id', t, e', U', rfl, h2', h3⟩
        | _ => cases h1
      split at h
      · rename_i x s' hl
        cases h
        exact key _ hl fun p hp => by cases List.mem_singleton.1 hp; exact List.mem_cons_self
      · rename_i l _ hl
        cases h
        exact key _ hl fun p hp => List.mem_map.2 ⟨p, hp, rfl⟩
      · cases h
    | loop c =>
      simp only [codeOK] at hc
      exact WpX.loop (hloop cr ro c s outs e U a w hcr hro hc hk hf hnx h)
    | region id ops dr =>
      have hcf := hcall e cr hcr
      have hN : Names U s.nx ops.size [] U (s.nx + ops.size) := ⟨⟨Nat.le_refl _, fun id h => Nat.lt_of_not_le fun hle => hnx id hle h⟩, fun id h => .inl h⟩
      cases dr with
      | false =>
        simp only [aexec, normS] at h
        split at h
        · rename_i ss hss
          cases h
          refine wpIn_region_list (aseq_ok hτ (rn := ro) (fun h => by subst h; rfl) (D := []) (U0 := U) (base := s.nx) (size := ops.size) (i := 0) (s := ⟨s.fr, s.dm, s.hp, s.nx + ops.size⟩) hcf hcr (by simp) (fun j hj => nomatch hj) hk hf hN hss ?_)
          intro s' e' U' a' w' D' m1 m2 m3 m4 m5 m6
          exact region_end (all := ops) s' e' U' a' w' m1 m2 m3 m4 m5 m6
        · cases h
      | true =>
        simp only [aexec, normS] at h
        simp only [codeOK, Bool.and_eq_true, Bool.not_eq_true'] at hc
        split at h
        · rename_i ss hss
          cases h
          refine adraw_ok (U0 := U) (base := s.nx) (s := ⟨s.fr, s.dm, s.hp, s.nx + ops.size⟩) hm hτ hcf hcr hc.1.1 hc.1.2 hc.2 hk hf hN hss ?_
          intro s' e' U' a' w' m1 m2 m3 m4 m5
          obtain ⟨D', m5, m6⟩ := m5
          exact region_end (all := ops) s' e' U' a' w' m1 m2 m3 m4 m5 m6
        · cases h
    | rangeFunc g ps assign body =>
      simp only [aexec] at h
      simp only [codeOK, Bool.and_eq_true] at hc
      split at h
      · rename_i gf cap s1 hg hent
        split at h
        · rename_i outs' hcl
          exact range_ok ih hcall hc.1 hc.2 hcr hro hk hf hnx hg hent hcl h
        · cases h
      · cases h
    | _ => simp only [aexec] at h; cases h
end
end Go.AM
