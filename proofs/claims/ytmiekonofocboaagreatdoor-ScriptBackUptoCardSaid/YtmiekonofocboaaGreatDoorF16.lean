/- The evaluator, part 16: code ends as was reckoned. -/
import Derived.Test.YtmiekonofocboaaGreatDoorF15
set_option linter.unusedVariables false
set_option linter.unusedSectionVars false
set_option linter.unusedSimpArgs false
namespace Go.AM
open Go Go.RowKit Go.Eng
section
variable {P : Program} {B : World} {n : Nat} {τ : Ty} {pl : Nat → AP} {call : CallF → CallF}
def CallGood (P : Program) (B : World) (call : CallF → CallF) : Prop := ∀ e cr, CrOk P B e cr → CfOk P B e (call cr)
def roB (e : Env) : Option Nat → Option Nat
  | none => none
  | some l => (match e l with
    | some z => some z.b
    | none => none)
def RoOk (e : Env) : Option Nat → Prop
  | none => True
  | some l => e l ≠ none
theorem roB_mono {e e' : Env} (h : e.le e') {ro : Option Nat} (hr : RoOk e ro) : roB e' ro = roB e ro ∧ RoOk e' ro := by
  cases ro with
  | none => exact ⟨rfl, trivial⟩
  | some l =>
    simp only [RoOk] at hr
    cases hl : e l with
    | none => exact absurd hl hr
    | some z => simp [roB, RoOk, hl, h _ _ hl]
/-- What is asked of the evaluator of code, for so much fuel. -/
def RunOk (P : Program) (B : World) (n : Nat) (pl : Nat → AP) (run : CallF → Option Nat → Code → Sg → Option Fin') : Prop :=
  ∀ cr ro c s outs e U a w, CrOk P B e cr → RoOk e ro → codeOK pl c = true → KnX e n s.fr s.dm a → Fit B e s.hp U w → (∀ id, s.nx ≤ id → ¬ U id) → run cr ro c s = some outs → c.wpIn (WF (roB e ro)) 0 P (Post B n e U s.nx outs) a w
theorem fresh_after {U U' : Nat → Prop} {nx nx' : Nat} (h : ∀ id, nx ≤ id → ¬ U id) (hn : nx ≤ nx') (hU : ∀ id, U' id → U id ∨ (nx ≤ id ∧ id < nx')) : ∀ id, nx' ≤ id → ¬ U' id := fun id hid hu => by
  rcases hU id hu with h1 | ⟨_, h1⟩
  · exact h id (by omega) h1
  · omega
theorem region_end {e : Env} {U : Nat → Prop} {nx size : Nat} {all : Array Oper} {ss : List Sg} (s' : Sg) (e' : Env) (U' : Nat → Prop) (a' : Act) (w' : World) (hm : s' ∈ ss) (hle : e.le e') (hk : KnX e' n s'.fr s'.dm a') (hf : Fit B e' s'.hp U' w') {D : List Nat} (hN : Names U nx size D U' s'.nx) (hD : ∀ j ∈ D, j < size) :
    Post B n e U nx (ss.map fun s => (Ex.n, s)) .normal a' w' := by
  refine ⟨.n, s', e', U', rfl, List.mem_map.2 ⟨s', hm, rfl⟩, hle, hk, hf, by have := hN.1.1; omega, fun id hid => ?_⟩
  have := hN.1.1
  rcases hN.2 id hid with h | ⟨j, h1, h2⟩ | h
  · exact .inl h
  · have := hD j h1; exact .inr ⟨by omega, by omega⟩
  · exact .inr ⟨by omega, h.2⟩
theorem step_putObj (w : World) (b : Nat) (o : Obj) : Step w (w.putObj b o) (some b) := step_setObj w b o
theorem putObj_same {w : World} {b : Nat} {o : Obj} (h : b < w.heap.size) : (w.putObj b o).heap[b]? = some o := World.putObj_heap_same h
/-- A loop's record, in the world. -/
theorem Fit.lp {e : Env} {hp : Hp} {U : Nat → Prop} {w : World} (hf : Fit B e hp U w) {l : Nat} {fr : Tr X} {m : Nat} {st : LoopState} {pend : Option (Option Nat)} {df : Nat} {z : EE} (hb : find hp l = some (.lp fr m st pend df)) (he : e l = some z) :
    ∃ fn ps assign body tmps zd, z.lc = some (fn, ps, assign, body) ∧ e df = some zd ∧ Slots e m fr tmps ∧ w.heap[z.b]? = some (.loop { state := st, pending := jumpC pend, fn := fn, tmps := tmps, params := ps, assign := assign, body := body, defers := zd.b }) := by
  obtain ⟨o, h1, fn, ps, assign, body, tmps, zd, h2, h3, h4, h5⟩ := hf.obj l _ z hb he
  subst h5
  exact ⟨fn, ps, assign, body, tmps, zd, h2, h3, h4, h1⟩
theorem loop_noIter {w : World} {b : Nat} {r : Loop} (h : w.heap[b]? = some (.loop r)) : NoIter w b := fun m s r' c hh => by rw [h] at hh; cases hh
/-- A record turns. -/
theorem Fit.lpSet {e : Env} {hp hp' : Hp} {U : Nat → Prop} {w : World} (hf : Fit B e hp U w) {l : Nat} {fr : Tr X} {m : Nat} {st st' : LoopState} {pend pend' : Option (Option Nat)} {df : Nat} {z : EE} (hb : find hp l = some (.lp fr m st pend df)) (he : e l = some z) {fn : FuncId} {ps : Array Tmp} {assign body : Code} {tmps : Array Value} {zd : EE}
    (h2 : z.lc = some (fn, ps, assign, body)) (h3 : e df = some zd) (h4 : Slots e m fr tmps) (h1 : w.heap[z.b]? = some (.loop { state := st, pending := jumpC pend, fn := fn, tmps := tmps, params := ps, assign := assign, body := body, defers := zd.b }))
    (hput : put 40 hp l (some (.lp fr m st' pend' df)) = some hp') : Fit B e hp' U (w.putObj z.b (.loop { state := st', pending := jumpC pend', fn := fn, tmps := tmps, params := ps, assign := assign, body := body, defers := zd.b })) :=
  hf.set hb he rfl (loop_noIter h1) (step_putObj _ _ _) (putObj_same (heap_lt h1)) (bl' := .lp fr m st' pend' df) ⟨fn, ps, assign, body, tmps, zd, h2, h3, h4, rfl⟩ hput
theorem putArgs_run {e : Env} : ∀ {ps : List Tmp} {as : X} {fr fr' : Tr X} {vs : List Value} {tmps : Array Value}, putArgs n ps as fr = some fr' → denL e as = some vs → Slots e n fr tmps → vs.length = ps.length ∧ Slots e n fr' ((ps.zip vs).foldl (fun t p => t.setIfInBounds p.1 p.2) tmps)
  | [], as, fr, fr', vs, tmps, h, hv, hs => by
    cases as <;> simp only [putArgs] at h <;> first | (cases h; done) | skip
    cases h
    simp only [denL, Option.some.injEq] at hv
    subst hv
    exact ⟨rfl, hs⟩
  | p :: ps, as, fr, fr', vs, tmps, h, hv, hs => by
    cases as <;> simp only [putArgs] at h <;> first | (cases h; done) | skip
    rename_i x as
    split at h
    · rename_i fr1 hlt hput
      have hlt := bltT.1 hlt
      rcases denL_cases hv with ⟨h0, _⟩ | ⟨a', b', v, m, h0, rfl, g1, g2⟩
      · cases h0
      · cases h0
        have hs1 : Slots e n fr1 (tmps.setIfInBounds p v) := by
          refine ⟨by simp [hs.1], fun d y hy => ?_⟩
          rw [put_find _ _ _ _ _ hput] at hy
          split at hy
          · rename_i e1
            cases hy
            subst e1
            exact ⟨hlt, v, g1, by simp [Array.getD, hs.1, hlt]⟩
          · rename_i e1
            obtain ⟨k1, u, k2, k3⟩ := hs.2 d y hy
            refine ⟨k1, u, k2, ?_⟩
            rw [← k3]
            simp [Array.getD, hs.1, k1, Array.getElem_setIfInBounds, Ne.symm e1]
        obtain ⟨i1, i2⟩ := putArgs_run h g2 hs1
        exact ⟨by simp [i1], by simpa using i2⟩
    · cases h
theorem roundA_ok {run : CallF → Option Nat → Code → Sg → Option Fin'} (hrun : RunOk P B n pl run) {cr : CallF} {l : Nat} {fn : FuncId} {ps : Array Tmp} {assign body : Code} (hca : codeOK pl assign = true) (hcb : codeOK pl body = true)
    {e : Env} {U : Nat → Prop} {w : World} {z : EE} {as : X} {hp : Hp} {nx : Nat} {outs : Outs} {vs : List Value} (hcr : CrOk P B e cr) (hf : Fit B e hp U w) (hnx : ∀ id, nx ≤ id → ¬ U id) (hv : denL e as = some vs) (hz : e l = some z) (hlc : z.lc = some (fn, ps, assign, body)) (h : roundA (run cr (some l)) n l ps.toList assign body as hp nx = some outs) :
    ∃ tmps, (Instr.yield z.b vs.toArray).run P w = .ok (.round z.b fn tmps assign body) w ∧ RoundIn Fence.wide 0 P z.b fn tmps assign body w (CallPost B e U nx outs) := by
  unfold roundA at h
  split at h
  · rename_i fr n' pend df hb
    split at h
    · rename_i fr' hn hpa
      have hn := beqT.1 hn
      subst hn
      obtain ⟨fn', ps', as', bd', tmps, zd, h2, h3, h4, h1⟩ := hf.lp hb hz
      rw [hlc] at h2
      cases h2
      obtain ⟨g1, g2⟩ := putArgs_run hpa hv h4
      have hy := run_yield (P := P) (args := vs.toArray) h1 (by simp [g1])
      refine ⟨_, hy, ?_⟩
      split at h
      · rename_i fouts hse
        obtain ⟨lo, q1, q2⟩ := seqE_mem hse
        refine roundIn_of_wpIn trivial ?_
        have htm : (ps.zip vs.toArray).foldl (fun tmps (x : Tmp × Value) => tmps.setIfInBounds x.1 x.2) tmps = (ps.toList.zip vs).foldl (fun t p => t.setIfInBounds p.1 p.2) tmps := by
          rw [← Array.foldl_toList]
          congr 1
          simp [Array.toList_zip]
        have hkn : KnX e n' fr' [] { tmps := (ps.zip vs.toArray).foldl (fun tmps (x : Tmp × Value) => tmps.setIfInBounds x.1 x.2) tmps, defers := [] } := ⟨⟨hf.env, rfl⟩, by rw [htm]; exact g2⟩
        have hF : WF (roB e (some l)) = Fence.wide.inRound z.b := by simp [roB, hz]; rfl
        have hRo : RoOk e (some l) := by simp [RoOk, hz]
        cases hra : run cr (some l) assign ⟨fr', [], hp, nx⟩ with
        | none => rw [hra] at q1; cases q1
        | some ro1 =>
          have hw1 := hrun cr (some l) assign _ _ e U _ w hcr hRo hca hkn hf hnx hra
          rw [hF] at hw1
          rw [hra] at q1
          refine wpIn_mono hw1 ?_
          rintro ex a1 w1 ⟨x, s1, e1, U1, k1, k2, k3, k4, k5, k6, k7⟩
          split at q1
          · rename_i s1' hre
            cases hre
            obtain ⟨rfl, rfl⟩ : x = .n ∧ s1 = s1' := by cases List.mem_singleton.1 k2; exact ⟨rfl, rfl⟩
            cases q1
            cases ex <;> simp only [exE] at k1 <;> first | (cases k1; done) | skip
            rcases q2 .n s1 List.mem_cons_self with ⟨_, r, p1, p2⟩ | ⟨p1, _⟩
            · split at p1
              · rename_i s2 hbr
                unfold beginRd at hbr
                split at hbr
                · rename_i fr2 n2 pend2 df2 hb2
                  split at hbr
                  · rename_i hp2 hput2
                    cases hbr
                    have hz1 := k3 _ _ hz
                    obtain ⟨fnx, psx, asx, bdx, tm2, zd2, m2, m3, m4, m1⟩ := k5.lp hb2 hz1
                    rw [hlc] at m2
                    cases m2
                    refine ⟨_, run_beginRound m1 rfl, ?_⟩
                    have hf2 := k5.lpSet hb2 hz1 hlc m3 m4 m1 hput2
                    have hRo1 : RoOk e1 (some l) := by simp [RoOk, hz1]
                    have hF1 : WF (roB e1 (some l)) = Fence.wide.inRound z.b := by simp [roB, hz1]; rfl
                    have hw2 := hrun cr (some l) body ⟨s1.fr, s1.dm, hp2, s1.nx⟩ r e1 U1 a1 _ (hcr.mono k3) hRo1 hcb k4 hf2 (fresh_after hnx k6 k7) p1
                    rw [hF1] at hw2
                    refine wpIn_mono hw2 ?_
                    rintro ex2 a2 w2 ⟨x2, s3, e3, U3, t1, t2, t3, t4, t5, t6, t7⟩
                    have hend : ∀ {outs : Outs} {r : Fin'}, endRd l r = some outs → (x2, s3) ∈ r → ∃ fr3 n3 st3 pend3 df3 hp3, find s3.hp l = some (.lp fr3 n3 st3 pend3 df3) ∧ put 40 s3.hp l (some (endBlk fr3 n3 df3 x2)) = some hp3 ∧ (.b (endV x2), hp3, s3.nx) ∈ outs := by
                      intro outs r
                      induction r generalizing outs with
                      | nil => intro _ hm; cases hm
                      | cons q r ih =>
                        intro he hm
                        obtain ⟨y, t⟩ := q
                        simp only [endRd] at he
                        split at he
                        · rename_i fr3 n3 st3 pend3 df3 outs' u1 u2
                          split at he
                          · rename_i hp3 u3
                            cases he
                            rcases List.mem_cons.1 hm with hm | hm
                            · cases hm
                              exact ⟨fr3, n3, st3, pend3, df3, hp3, u1, u3, List.mem_cons_self⟩
                            · obtain ⟨a1, a2, a3, a4, a5, a6, v1, v2, v3⟩ := ih u2 hm
                              exact ⟨a1, a2, a3, a4, a5, a6, v1, v2, List.mem_cons_of_mem _ v3⟩
                          · cases he
                        · cases he
                    obtain ⟨fr3, n3, st3, pend3, df3, hp3, v1, v2, v3⟩ := hend h (p2 _ t2)
                    have hz3 := t3 _ _ hz1
                    obtain ⟨fny, psy, asy, bdy, tm3, zd3, y2, y3, y4, y1⟩ := t5.lp v1 hz3
                    rw [hlc] at y2
                    cases y2
                    have fin : ∀ {st' : LoopState} {pend' : Option (Option Nat)} {v : Bool}, put 40 s3.hp l (some (.lp fr3 n3 st' pend' df3)) = some hp3 → (.b v, hp3, s3.nx) ∈ outs → CallPost B e U nx outs (.returned (.bool v)) (w2.putObj z.b (.loop { state := st', pending := jumpC pend', fn := fn, tmps := tm3, params := ps, assign := assign, body := body, defers := zd3.b })) := by
                      intro st' pend' v hput hmem
                      refine ⟨.b v, hp3, s3.nx, e3, .bool v, hmem, rfl, Env.le_trans k3 t3, rfl, ?_⟩
                      refine (t5.lpSet v1 hz3 hlc y3 y4 y1 hput).used fun id hid => ?_
                      have t6' : s1.nx ≤ s3.nx := t6
                      have k6' : nx ≤ s1.nx := k6
                      rcases t7 id hid with hu | ⟨hu1, hu2⟩
                      · rcases k7 id hu with hu | ⟨hu1, hu2⟩
                        · exact .inl hu
                        · have hu2' : id < s1.nx := hu2
                          exact .inr ⟨hu1, by omega⟩
                      · have hu1' : s1.nx ≤ id := hu1
                        exact .inr ⟨by omega, hu2⟩
                    cases ex2 <;> simp only [exE, Option.some.injEq] at t1 <;> first | (cases t1; done) | skip
                    · subst t1; exact ⟨_, _, run_endRound none y1, fin v2 v3⟩
                    · subst t1; exact ⟨_, _, run_endRound (some (.exit _)) y1, fin (pend' := some (some _)) v2 v3⟩
                    · subst t1; exact ⟨_, _, run_endRound (some .ret) y1, fin (pend' := some none) v2 v3⟩
                  · cases hbr
                · cases hbr
              · cases p1
            · exact absurd rfl p1
          · cases q1
      · cases h
    · cases h
  · cases h
end
end Go.AM
