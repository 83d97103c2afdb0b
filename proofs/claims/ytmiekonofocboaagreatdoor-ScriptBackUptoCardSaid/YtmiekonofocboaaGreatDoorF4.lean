/- The evaluator, part 4: a quiet operation comes to what was reckoned, in every world that fits. -/
import Derived.Test.YtmiekonofocboaaGreatDoorF3
set_option linter.unusedVariables false
set_option linter.unusedSectionVars false
set_option linter.unusedSimpArgs false
namespace Go.AM
open Go Go.RowKit Go.Eng

theorem add_z (b o off k : Nat) : (⟨b, o + off, none⟩ : Addr).add k = ⟨b, o + (off + k), none⟩ := by rw [add_own, Nat.add_assoc]
set_option maxHeartbeats 1000000 in
theorem aq_qv {P : Program} {τ : Ty} (hτ : TyOk P τ) {B : World} {e : Env} {hp : Hp} {U : Nat → Prop} {n : Nat} {fr : Tr X} {dm : List DM} {a : Act} {w : World} (hk : KnX e n fr dm a) (hf : Fit B e hp U w) {op : Op} {y : X} (h : aq P τ fr hp op = some y) :
    ∃ v, den e y = some v ∧ qv P (fullS a n w) op = some (.v v) := by
  have hev : ∀ {x : Operand} {y : X}, ev fr x = some y → ∃ v, den e y = some v ∧ evo (fullS a n w).L x = some (.v v) := fun hy => by
    obtain ⟨v, h1, _, h2⟩ := ev_full hk w hy; exact ⟨v, h1, h2⟩
  unfold aq at h
  split at h
  · obtain ⟨v, h1, h2⟩ := hev h; exact ⟨v, h1, by simp only [qv, h2]⟩
  · obtain ⟨v, h1, h2⟩ := hev h; exact ⟨v, h1, by simp only [qv, h2]⟩
  · split at h
    · rename_i hc
      obtain ⟨v, h1, h2⟩ := hev hc
      simp only [den, Option.some.injEq] at h1; subst h1
      obtain ⟨v, h3, h4⟩ := hev h
      exact ⟨v, h3, by simp only [qv, h2, cond_true, h4]⟩
    · rename_i hc
      obtain ⟨v, h1, h2⟩ := hev hc
      simp only [den, Option.some.injEq] at h1; subst h1
      obtain ⟨v, h3, h4⟩ := hev h
      exact ⟨v, h3, by simp only [qv, h2, cond_false, h4]⟩
    · cases h
  · split at h
    · rename_i hx hy
      obtain ⟨vx, h1, h2⟩ := hev hx
      obtain ⟨vy, h3, h4⟩ := hev hy
      obtain ⟨v, h5, h6⟩ := xbin_run hτ h1 h3 h
      exact ⟨v, h5, by simp only [qv, h2, h4, AV.val_v, h6]⟩
    · cases h
  · split at h
    · rename_i hx
      obtain ⟨v, h1, h2⟩ := hev hx
      simp only [den, Option.some.injEq] at h1; subst h1
      cases h
      exact ⟨_, rfl, by simp only [qv, h2]⟩
    · rename_i hx
      obtain ⟨v, h1, h2⟩ := hev hx
      simp only [den, Option.some.injEq] at h1; subst h1
      cases h
      exact ⟨_, rfl, by simp only [qv, h2]⟩
    · cases h
  · split at h
    · rename_i hs hd hx
      obtain ⟨v, h1, h2⟩ := hev hx
      simp only [den, Option.some.injEq] at h1; subst h1
      cases h
      exact ⟨_, rfl, by simp only [qv, hτ _ _ hs, hτ _ _ hd, h2]⟩
    · rename_i hs hd hx
      obtain ⟨v, h1, h2⟩ := hev hx
      obtain ⟨z, hz, hk', rfl⟩ := den_u h1
      split at h
      · rename_i he hb
        split at h
        · rename_i l hl
          split at h
          · rename_i ns hns
            cases h
            obtain ⟨pre, vs, post, fz, ⟨g1, _⟩, g2, g3, _⟩ := hf.cells hb hz
            obtain ⟨k1, k2⟩ := cellsAt_run g3 hl
            obtain ⟨j1, j2⟩ := bytesX_run k1 hns
            refine ⟨_, den_s' j2, ?_⟩
            simp only [qv, hτ _ _ hs, hτ _ _ hd, h2, hτ _ _ he, cells_in g1 g2 k2, j1, bstr_str]
          · cases h
        · cases h
      · cases h
    · rename_i hs hd hx
      obtain ⟨v, h1, h2⟩ := hev hx
      obtain ⟨z, hz, hk', rfl⟩ := den_l h1
      split at h
      · rename_i he hb
        split at h
        · rename_i l hl
          split at h
          · rename_i ns hns
            cases h
            obtain ⟨pre, vs, post, fz, ⟨g1, _⟩, g2, g3, _⟩ := hf.cells hb hz
            obtain ⟨k1, k2⟩ := cellsAt_run g3 hl
            obtain ⟨j1, j2⟩ := bytesX_run k1 hns
            refine ⟨_, den_s' j2, ?_⟩
            simp only [qv, hτ _ _ hs, hτ _ _ hd, h2, hτ _ _ he, cells_in g1 g2 k2, j1, bstr_str]
          · cases h
        · cases h
      · cases h
    · cases h
  · split at h
    · rename_i ht hx
      obtain ⟨v, h1, h2⟩ := hev hx
      cases h
      exact ⟨_, by simp only [den, h1]; rfl, by simp only [qv, hτ _ _ ht, h2, AV.val_v]⟩
    · rename_i ht hx
      obtain ⟨v, h1, h2⟩ := hev hx
      cases h
      exact ⟨_, by simp only [den, h1]; rfl, by simp only [qv, hτ _ _ ht, h2, AV.val_v]⟩
    · rename_i ht hx
      obtain ⟨v, h1, h2⟩ := hev hx
      cases h
      exact ⟨_, by simp only [den, h1]; rfl, by simp only [qv, hτ _ _ ht, h2, AV.val_v]⟩
    · cases h
  · split at h
    · rename_i h1 h2
      cases h
      obtain ⟨l1, g1, g2⟩ := evs_full hk w h1
      obtain ⟨l2, g3, g4⟩ := evs_full hk w h2
      exact ⟨_, by simp only [den, g1, g3]; rfl, by simp only [qv, g2, g4]⟩
    · cases h
  · split at h
    · rename_i hx
      obtain ⟨v, h1, h2⟩ := hev hx
      obtain ⟨vs, h3, rfl⟩ := den_tup h1
      obtain ⟨v, h4, h5⟩ := xnth_den h3 h
      exact ⟨v, h4, by simp only [qv, h2, List.getElem?_toArray, h5]⟩
    · cases h
  · split at h
    · rename_i hd hx
      obtain ⟨v, h1, h2⟩ := hev hx
      obtain ⟨vs, h3, rfl⟩ := den_agg h1
      obtain ⟨v, h4, h5⟩ := rdX_run h3 h
      exact ⟨v, h4, by simp only [qv, fdT_run hτ hd, h2, List.toList_toArray, h5]⟩
    · cases h
  · split at h
    · rename_i hd hx
      obtain ⟨v, h1, h2⟩ := hev hx
      obtain ⟨z, hz, rfl⟩ := den_p h1
      split at h
      · cases h
      · rename_i h0
        cases h
        exact ⟨_, by simp only [den, hz]; rfl, by simp only [qv, fdT_run hτ hd, h2, if_neg (beqF.1 h0), add_z]⟩
    · cases h
  · split at h
    · rename_i hx
      obtain ⟨v, h1, h2⟩ := hev hx
      cases h
      obtain ⟨z, hz, rfl⟩ := den_p h1
      exact ⟨_, h1, by simp only [qv, h2]⟩
    · cases h
  · split at h
    · rename_i ht hx hi
      obtain ⟨v, h1, h2⟩ := hev hx
      obtain ⟨vi, h3, h4⟩ := hev hi
      obtain ⟨z, hz, _, rfl⟩ := den_l h1
      simp only [den, Option.some.injEq] at h3; subst h3
      split at h
      · rename_i hj hD
        cases h
        exact ⟨_, by simp only [den, hz]; rfl, by simp only [qv, hτ _ _ ht, h2, h4, idxN_idx hj, hτ _ _ hD, add_z]⟩
      · cases h
    · rename_i ht hx hi
      obtain ⟨v, h1, h2⟩ := hev hx
      obtain ⟨vi, h3, h4⟩ := hev hi
      obtain ⟨z, hz, _, rfl⟩ := den_u h1
      simp only [den, Option.some.injEq] at h3; subst h3
      split at h
      · rename_i hj hD
        cases h
        exact ⟨_, by simp only [den, hz]; rfl, by simp only [qv, hτ _ _ ht, h2, h4, idxN_idx hj, hτ _ _ hD, add_z]⟩
      · cases h
    · rename_i ht hx hi
      obtain ⟨v, h1, h2⟩ := hev hx
      obtain ⟨vi, h3, h4⟩ := hev hi
      obtain ⟨z, hz, rfl⟩ := den_p h1
      simp only [den, Option.some.injEq] at h3; subst h3
      split at h
      · rename_i hj hD
        cases h
        exact ⟨_, by simp only [den, hz]; rfl, by simp only [qv, hτ _ _ ht, h2, h4, idxN_idx hj, hτ _ _ hD, add_z]⟩
      · cases h
    · cases h
  · split at h
    · rename_i s k i ht hx hi
      obtain ⟨v, h1, h2⟩ := hev hx
      obtain ⟨vi, h3, h4⟩ := hev hi
      obtain ⟨hb, rfl⟩ := den_s h1
      simp only [den, Option.some.injEq] at h3; subst h3
      split at h
      · rename_i j hj
        split at h
        · rename_i m hm
          cases h
          have hi' := idxN_idx hj
          have hlt : m < 256 := bltT.1 (List.all_eq_true.1 hb m (List.mem_of_getElem? hm))
          refine ⟨_, rfl, ?_⟩
          simp only [qv, hτ _ _ ht, h2, h4, str_size, hi']
          congr 4
          have hj' : j < s.length := by
            rcases Nat.lt_or_ge j s.length with h' | h'
            · exact h'
            · rw [List.getElem?_eq_none h'] at hm; cases hm
          simp only [str, Array.getD, List.size_toArray, List.length_map, hj', dite_true]
          rw [List.getElem?_eq_getElem hj'] at hm
          simp only [Option.some.injEq] at hm
          simp [hm, hj', Nat.mod_eq_of_lt hlt]
        · cases h
      · cases h
    · cases h
  · split at h
    · rename_i hx
      obtain ⟨v, h1, h2⟩ := hev hx
      obtain ⟨z, hz, rfl⟩ := den_p h1
      obtain ⟨v, h3, h4⟩ := ldX_run hτ hf a n hz h
      exact ⟨v, h3, by simp only [qv, h2, h4]⟩
    · cases h
  · split at h
    · rename_i s ht hx
      obtain ⟨v, h1, h2⟩ := hev hx
      obtain ⟨hb, rfl⟩ := den_s h1
      split at h
      · rename_i l hh hc
        cases h
        obtain ⟨g1, g2, g3⟩ := cutX_run hk w (Nat.le_refl _) hc (Nat.le_refl _)
        refine ⟨_, den_s' (List.all_eq_true.2 fun x hx => List.all_eq_true.1 hb x (List.mem_of_mem_drop (List.mem_of_mem_take hx))), ?_⟩
        simp only [qv, hτ _ _ ht, h2, str_size, g1]
        congr 3
        apply ByteArray.ext
        apply Array.ext'
        simp [str, List.extract, List.map_take, List.map_drop]
      · cases h
    · rename_i id off len cap ht hx
      obtain ⟨v, h1, h2⟩ := hev hx
      obtain ⟨z, hz, hle, rfl⟩ := den_l h1
      split at h
      · rename_i l hh D hc hD
        cases h
        obtain ⟨g1, g2, g3⟩ := cutX_run hk w (Nat.le_refl _) hc hle
        cases hb : Nat.beq cap l with
        | true =>
          have := beqT.1 hb
          exact ⟨_, by simp only [den, hz]; rw [if_pos (by omega)], by simp only [qv, hτ _ _ ht, h2, g1, hτ _ _ hD]; rw [if_pos this]⟩
        | false =>
          have := beqF.1 hb
          exact ⟨_, by simp only [den, hz]; rw [if_pos (by omega)], by simp only [qv, hτ _ _ ht, h2, g1, hτ _ _ hD, Option.map_some, add_z]; rw [if_neg this]⟩
      · cases h
    · rename_i id off len k ht hx
      obtain ⟨v, h1, h2⟩ := hev hx
      obtain ⟨z, hz, hle, rfl⟩ := den_u h1
      split at h
      · rename_i l hh D hc hD
        obtain ⟨g1, g2, g3⟩ := cutX_run (c' := z.c - k) hk w (by omega) hc (Nat.le_refl _)
        split at h
        · rename_i h0
          cases h
          have := beqT.1 h0
          subst this
          refine ⟨_, by simp only [den, hz]; rw [if_pos (by omega)], ?_⟩
          simp only [qv, hτ _ _ ht, h2, g1, hτ _ _ hD, Option.map_some, Nat.zero_mul, add_zero', Nat.sub_zero, ite_self]
        · rename_i h0
          have h0 := beqF.1 h0
          split at h
          · rename_i h3
            cases h
            have h3 := bltT.1 h3
            refine ⟨_, by simp only [den, hz]; rw [if_pos (by omega)], ?_⟩
            simp only [qv, hτ _ _ ht, h2, g1, hτ _ _ hD, Option.map_some, add_z]
            rw [if_neg (by omega), show z.c - k - l = z.c - (k + l) by omega]
          · rename_i h3
            cases h
            have h3 : ¬ l < len := fun c => by rw [bltT.2 c] at h3; cases h3
            have e1 : l = len := by omega
            have e2 : hh = len := by omega
            subst e1; subst e2
            refine ⟨_, by simp only [den, hz]; rw [if_pos (by omega)], ?_⟩
            simp only [qv, hτ _ _ ht, h2, g1, hτ _ _ hD, Option.map_some, add_z, Nat.sub_self]
            by_cases hcz : z.c = k + hh
            · rw [if_pos (by omega), if_pos hcz, show z.c - k - hh = z.c - (k + hh) by omega]
            · rw [if_neg (by omega), if_neg hcz, show z.c - k - hh = z.c - (k + hh) by omega]
      · cases h
    · rename_i ht hx
      obtain ⟨v, h1, h2⟩ := hev hx
      simp only [den, Option.some.injEq] at h1; subst h1
      split at h
      · rename_i l hh _ hc hD
        cases h
        obtain ⟨g1, g2, g3⟩ := cutX_run hk w (Nat.le_refl _) hc (Nat.le_refl _)
        have e1 : l = 0 := by omega
        have e2 : hh = 0 := by omega
        subst e1; subst e2
        exact ⟨_, rfl, by simp only [qv, hτ _ _ ht, h2, g1, hτ _ _ hD, Option.map_none, ite_self]⟩
      · cases h
    · cases h
  · rename_i args tys
    split at h
    · rename_i x t e1 e2
      split at h <;> first
        | (cases h; done)
        | (rename_i ht hx
           obtain ⟨v, h1, h2⟩ := hev hx
           cases h
           refine ⟨_, rfl, ?_⟩
           first
             | (obtain ⟨_, rfl⟩ := den_s h1; simp only [qv, e1, e2, hτ _ _ ht, h2, str_size]; done)
             | (simp only [den, Option.some.injEq] at h1; subst h1; simp only [qv, e1, e2, hτ _ _ ht, h2]; done)
             | (simp only [den, Option.some.injEq] at h1; subst h1; simp only [qv, e1, e2, hτ _ _ ht, h2]; rfl)
             | (obtain ⟨_, _, _, rfl⟩ := den_ue h1; simp only [qv, e1, e2, hτ _ _ ht, h2]; rfl)
             | (obtain ⟨_, _, _, rfl⟩ := den_l h1; simp only [qv, e1, e2, hτ _ _ ht, h2]; done)
             | (obtain ⟨_, _, _, rfl⟩ := den_u h1; simp only [qv, e1, e2, hτ _ _ ht, h2]; done)
             | (obtain ⟨_, _, _, rfl⟩ := den_ue h1; simp only [qv, e1, e2, hτ _ _ ht, h2]; done)
             | (simp only [qv, e1, e2, hτ _ _ ht, h2]; done)
             | rfl)
    · cases h
  · cases h
theorem aq_run {P : Program} {τ : Ty} (hτ : TyOk P τ) {B : World} {e : Env} {hp : Hp} {U : Nat → Prop} {n : Nat} {fr : Tr X} {dm : List DM} {a : Act} {w : World} (hk : KnX e n fr dm a) (hf : Fit B e hp U w) {o : Oper} {y : X} (h : aq P τ fr hp o.op = some y) :
    ∃ v, den e y = some v ∧ (execOp a.eval o).run P w = .ok (.value v) w := by
  obtain ⟨v, h1, h2⟩ := aq_qv hτ hk hf h
  exact ⟨v, h1, qv_run (full_kn hk w) (full_sat a n w) h2⟩
end Go.AM
