/- Graphs as data: rounds put each number where one comes to in the end. -/
import Derived.Test.YthdbmbabfngakaaG7
namespace Go.Proofs.Ythdbmbabfngakaa.G
set_option linter.unusedSimpArgs false
set_option linter.unusedVariables false
theorem nx_nd {g : Gr} {k : Int} {m : Nd} (h : nd g k = some m) : nx g k = leadsN g.nodes m := nx_at (nd_pos h).1 (nd_pos h).2.2.2
theorem nd_nodes {g : Gr} {k : Int} {m : Nd} (h0 : 0 ≤ k) (h : g.nodes[k.toNat]? = some m) : nd g k = some m := by unfold nd; rw [if_neg (by omega)]; exact h
theorem nx_or {g : Gr} {k : Int} {m : Nd} (h : nd g k = some m) : nextF g k = nx g k ∨ nx g k = -1 := by
  rw [nx_nd h, nextF_at h]
  unfold leadsN nextN
  cases hk : m.kids with
  | nil => exact .inl rfl
  | cons t l =>
    simp only
    by_cases hi : m.kind = kInd
    · rw [if_pos hi, if_pos hi]; exact .inl rfl
    rw [if_neg hi, if_neg hi]
    by_cases hs : m.kind ≠ kSel ∨ t < 0
    · rw [if_pos hs]; exact .inr rfl
    rw [if_neg hs]
    have hs1 : m.kind = kSel := Classical.byContradiction fun e => hs (.inl e)
    have ht0 : 0 ≤ t := by have := fun e => hs (.inr e); omega
    rw [if_neg (fun e => e hs1)]
    cases hn : m.nons with
    | nil => exact .inr rfl
    | cons i ns =>
      cases hc : g.nodes[t.toNat]? with
      | none => exact .inr rfl
      | some c =>
        simp only
        by_cases hb : c.kind ≠ kCon ∨ c.info ≠ m.info ∨ (c.kids.length : Int) ≤ i
        · rw [if_pos hb]; exact .inr rfl
        rw [if_neg hb]
        have hck : c.kind = kCon := Classical.byContradiction fun e => hb (.inl e)
        have hci : c.info = m.info := Classical.byContradiction fun e => hb (.inr (.inl e))
        have hnd := nd_nodes ht0 hc
        rw [selF_con ⟨0, .con hnd hck⟩ hnd, if_pos hci]
        exact .inl rfl
theorem nx_pos {g : Gr} {k : Int} (h0 : 0 ≤ k) (hk : k < g.nodes.length) (h : nx g k ≠ -1) : nextF g k = nx g k := by
  obtain ⟨m, hm⟩ := nd_some g h0 hk
  exact (nx_or hm).resolve_right h
theorem tod_fwd {g : Gr} (hg : Small g) : ∀ (d : Nat) (x t : Int), x < g.nodes.length → ToD (nx g) d x t → Fwd g x t
  | 0, x, t, hx, hd => by
    cases hd with
    | stop a b c => exact fwd_refl g _
    | lost a b => exact .inr ⟨rfl, endN_lost a (by rw [nx_pos a hx (by omega)]; exact b)⟩
  | d + 1, x, t, hx, hd => by
    cases hd with
    | step a b c =>
      have e := nx_pos a hx (by omega)
      rcases tod_fwd hg d _ t (nx_lt hg x) c with h | ⟨h1, h2⟩
      · exact .inl (.step a (by rw [e]; exact b) (by rw [e]; exact h))
      · exact .inr ⟨h1, by rw [finN_step hg a hx (by rw [e]; exact b), e]; exact h2⟩
theorem tod_nx {g : Gr} (hg : Small g) : ∀ (d : Nat) (x t : Int), x < g.nodes.length → ToD (nextF g) d x t → ∃ d' t', ToD (nx g) d' x t' := by
  intro d
  induction d with
  | zero =>
    intro x t hx hd
    by_cases h : 0 ≤ nx g x
    · have e := nx_pos hd.from hx (by omega)
      cases hd with
      | stop a b c => omega
      | lost a b => omega
    · by_cases h2 : nx g x = -2
      · exact ⟨0, _, .lost hd.from h2⟩
      · exact ⟨0, _, .stop hd.from (by omega) h2⟩
  | succ d ih =>
    intro x t hx hd
    by_cases h : 0 ≤ nx g x
    · have e := nx_pos hd.from hx (by omega)
      cases hd with
      | step a b c =>
        rw [e] at c
        obtain ⟨d', t', h'⟩ := ih _ t (nx_lt hg x) c
        exact ⟨d' + 1, t', .step a h h'⟩
    · by_cases h2 : nx g x = -2
      · exact ⟨0, _, .lost hd.from h2⟩
      · exact ⟨0, _, .stop hd.from (by omega) h2⟩
theorem put_fwd {g : Gr} (hg : Small g) {x : Int} (hx : x < g.nodes.length) : Fwd g x (put g x) := by
  by_cases h0 : x < 0
  · rw [put_neg g h0]; exact fwd_refl g x
  rcases endN_cases (nx := nx g) (fun k _ _ => nx_lt hg k) (k := x) (by omega) hx with ⟨d, hd⟩ | ⟨hno, he⟩
  · exact tod_fwd hg d x _ hx hd
  · refine .inr ⟨he, ?_⟩
    rcases endN_cases (nx := nextF g) (fun k _ _ => nextF_lt hg k) (k := x) (by omega) hx with ⟨d, hd⟩ | ⟨_, he2⟩
    · obtain ⟨d', t', h'⟩ := tod_nx hg d x _ hx hd
      exact absurd h' (hno d' t')
    · exact he2
/-- Each number turned. -/
def mapN (f : Int → Int) (g : Gr) : Gr := ⟨g.roots.map f, g.nodes.map fun m => { m with kids := m.kids.map f }⟩
/-- One graph is another one, with numbers further on, in the roots too. -/
structure RelR (g g' : Gr) : Prop where
  rel : Rel g g'
  rlen : g'.roots.length = g.roots.length
  roots : ∀ (i : Nat) (t t' : Int), g.roots[i]? = some t → g'.roots[i]? = some t' → Fwd g t t'
theorem RelR.refl (g : Gr) : RelR g g := ⟨⟨rfl, fun k m h => ⟨m, h, rfl, rfl, rfl, rfl, fun i t t' h1 h2 => by rw [h1] at h2; cases h2; exact fwd_refl g t⟩⟩, rfl, fun i t t' h1 h2 => by rw [h1] at h2; cases h2; exact fwd_refl g t⟩
theorem nd_map {g : Gr} {f : Int → Int} {k : Int} {m : Nd} (h : nd g k = some m) : nd (mapN f g) k = some { m with kids := m.kids.map f } := by
  have hp := nd_pos h
  unfold nd
  rw [if_neg (by omega)]
  simp only [mapN, List.getElem?_map, hp.2.2.2, Option.map_some]
theorem round_rel {g : Gr} (hg : Small g) : RelR g (round g) := by
  refine ⟨⟨round_len g, fun k m h => ⟨_, nd_map (f := put g) h, rfl, rfl, rfl, by simp, fun i t t' h1 h2 => ?_⟩⟩, by simp [round], fun i t t' h1 h2 => ?_⟩
  · simp only [List.getElem?_map, h1, Option.map_some, Option.some.injEq] at h2
    subst h2
    exact put_fwd hg (hg.kids m (nd_pos h).2.2.1 t (List.mem_of_getElem? h1))
  · simp only [round, List.getElem?_map, h1, Option.map_some, Option.some.injEq] at h2
    subst h2
    exact put_fwd hg (hg.roots t (List.mem_of_getElem? h1))
theorem map_at {l l' : List Int} {f f' : Int → Int} (hl : l'.length = l.length) (h : ∀ (i : Nat) (t t' : Int), l[i]? = some t → l'[i]? = some t' → f' t' = f t) : l'.map f' = l.map f := by
  refine List.ext_getElem (by simp [hl]) fun i h1 h2 => ?_
  simp only [List.length_map] at h1 h2
  simp only [List.getElem_map]
  exact h i _ _ (List.getElem?_eq_getElem h2) (List.getElem?_eq_getElem h1)
/-- Where all comes to in the end is the same. -/
theorem RelR.map {g g' : Gr} (h : RelR g g') (hg : Small g) (hg' : Small g') : mapN (finN g') g' = mapN (finN g) g := by
  have key : ∀ t t' : Int, t < g.nodes.length → t' < g'.nodes.length → Fwd g t t' → finN g' t' = finN g t := fun t t' h1 h2 hf => by
    rw [h.rel.fin hg hg' (by rw [← h.rel.len]; exact h2), hf.fin hg h1]
  unfold mapN
  have e1 : g'.roots.map (finN g') = g.roots.map (finN g) := map_at h.rlen fun i t t' h1 h2 => key t t' (hg.roots t (List.mem_of_getElem? h1)) (hg'.roots t' (List.mem_of_getElem? h2)) (h.roots i t t' h1 h2)
  rw [e1]
  congr 1
  refine List.ext_getElem (by simp [h.rel.len]) fun i h1 h2 => ?_
  simp only [List.length_map] at h1 h2
  simp only [List.getElem_map]
  have hn : nd g (i : Int) = some g.nodes[i] := nd_nodes (by omega) (List.getElem?_eq_getElem h2)
  obtain ⟨m', e, k1, k2, k3, k4, k5⟩ := h.rel.node _ _ hn
  have hm' : g'.nodes[i]? = some m' := (nd_pos e).2.2.2
  rw [List.getElem?_eq_getElem h1] at hm'
  cases hm'
  have e2 : g'.nodes[i].kids.map (finN g') = g.nodes[i].kids.map (finN g) := map_at k4 fun j t t' q1 q2 => key t t' (hg.kids _ (List.getElem_mem h2) t (List.mem_of_getElem? q1)) (hg'.kids _ (List.getElem_mem h1) t' (List.mem_of_getElem? q2)) (k5 j t t' q1 q2)
  rw [e2, k1, k2, k3]
theorem endF_congr {f f' : Int → Int} {n : Nat} (hf : ∀ k : Int, 0 ≤ k → k < n → f k < n) (h : ∀ k : Int, 0 ≤ k → k < n → f k = f' k) : ∀ (d : Nat) (k : Int), k < n → endF f d k = endF f' d k
  | 0, _, _ => rfl
  | d + 1, k, hk => by
    rw [endF, endF]
    split
    · rfl
    rename_i h0
    have e := h k (by omega) hk
    rw [← e]
    split
    · rfl
    split
    · rfl
    exact endF_congr hf h d _ (hf k (by omega) hk)
section
variable {g : Gr} (hg : Small g) (hc : Clean g)
include hg hc
theorem kid_stays {m : Nd} (hm : m ∈ g.nodes) {t : Int} (ht : t ∈ m.kids) : Stays g t := by
  have := put_stays hg (hg.kids m hm t ht)
  rwa [hc.2 m hm t ht] at this
theorem con_stays : ∀ (n : Nat) {t c : Int}, ConH g n t c → Stays g t → t = c := by
  intro n
  induction n using Nat.strongRecOn with
  | _ n ih =>
    intro t c h hs
    have hr := h.from
    have hneg := hs.resolve_left (by omega)
    cases h with
    | con a b => rfl
    | ind a b c d =>
      exfalso
      have := nx_nd a
      unfold leadsN at this
      rw [c] at this
      simp only [if_pos b] at this
      have := d.from.1
      omega
    | sel a b c d e f1 f2 f3 f4 =>
      exfalso
      have hm := (nd_pos a).2.2.1
      have h2 := ih _ (Nat.lt_succ_self _) e (kid_stays hg hc hm (by rw [c]; exact List.mem_cons_self))
      subst h2
      obtain ⟨mk, k1, k2⟩ := e.end_
      rw [f1] at k1
      cases k1
      have hp := nd_pos f1
      have hx := nx_nd a
      unfold leadsN at hx
      rw [c, d] at hx
      simp only [hp.2.2.2] at hx
      have hi0 := hg.nons _ hm _ (by rw [d]; exact List.mem_cons_self)
      rw [if_neg (by rw [b]; decide), if_neg (by rintro (h | h); exact h b; omega), if_neg (by
        rintro (h | h | h)
        · exact h k2
        · exact h f2
        · obtain ⟨hlt, _⟩ := List.getElem?_eq_some_iff.1 f3
          omega), f3] at hx
      simp only [Option.getD_some] at hx
      have := f4.from.1
      omega
theorem clean_next {k : Int} (h0 : 0 ≤ k) (hk : k < g.nodes.length) : nextF g k = nx g k := by
  obtain ⟨m, hm⟩ := nd_some g h0 hk
  have hmm := (nd_pos hm).2.2.1
  rw [nx_nd hm, nextF_at hm]
  unfold leadsN nextN
  cases hkd : m.kids with
  | nil => rfl
  | cons t l =>
    simp only
    by_cases hi : m.kind = kInd
    · rw [if_pos hi, if_pos hi]
    rw [if_neg hi, if_neg hi]
    by_cases hs : m.kind = kSel
    case neg => rw [if_pos hs, if_pos (.inl hs)]
    rw [if_neg (fun e => e hs)]
    have hst := kid_stays hg hc hmm (t := t) (by rw [hkd]; exact List.mem_cons_self)
    have htl := hg.kids m hmm t (by rw [hkd]; exact List.mem_cons_self)
    by_cases ht : t < 0
    · rw [if_pos (.inr ht)]
      cases hn : m.nons with
      | nil => rfl
      | cons i ns => exact selF_no fun c h => by have := h.from.1; omega
    rw [if_neg (by rintro (h | h); exact h hs; exact ht h)]
    cases hn : m.nons with
    | nil => rfl
    | cons i ns =>
      have hi0 := hg.nons m hmm i (by rw [hn]; exact List.mem_cons_self)
      obtain ⟨mc, hmc⟩ := nd_some g (k := t) (by omega) htl
      have hp := nd_pos hmc
      simp only [hp.2.2.2]
      by_cases hx : ∃ c, Con g t c
      · obtain ⟨c, q, hq⟩ := hx
        have e := con_stays hg hc q hq hst
        subst e
        obtain ⟨mk, k1, k2⟩ := hq.end_
        rw [hmc] at k1
        cases k1
        rw [selF_con ⟨q, hq⟩ hmc]
        by_cases hf : mc.info = m.info
        · rw [if_pos hf]
          by_cases hb : (mc.kids.length : Int) ≤ i
          · rw [if_pos (.inr (.inr hb)), List.getElem?_eq_none (by omega)]; rfl
          · rw [if_neg (by rintro (h | h | h); exact h k2; exact h hf; exact hb h)]
        · rw [if_neg hf, if_pos (.inr (.inl hf))]
      · rw [selF_no fun c h => hx ⟨c, h⟩, if_pos (.inl fun e => hx ⟨t, 0, .con hmc e⟩)]
theorem clean_fin {x : Int} (hx : x < g.nodes.length) : finN g x = put g x := endF_congr (fun k _ _ => nextF_lt hg k) (fun k h0 hk => clean_next hg hc h0 hk) _ x hx
theorem clean_map : mapN (finN g) g = g := by
  have e : mapN (finN g) g = round g := by
    unfold mapN round
    congr 1
    · exact List.map_congr_left fun x hx => clean_fin hg hc (hg.roots x hx)
    · refine List.map_congr_left fun m hm => ?_
      rw [show m.kids.map (finN g) = m.kids.map (put g) from List.map_congr_left fun x hx => clean_fin hg hc (hg.kids m hm x hx)]
  rw [e, round_clean hc]
end
/-- Rounds till all stays. -/
theorem rounds_map : ∀ (k : Nat) (g : Gr), Small g → Clean (rounds k g) → rounds k g = mapN (finN g) g
  | 0, g, hg, hc => (clean_map hg hc).symm
  | k + 1, g, hg, hc => by
    rw [rounds] at hc ⊢
    split at hc
    · rename_i h; rw [if_pos h]; exact (clean_map hg h).symm
    · rename_i h
      rw [if_neg h, rounds_map k (round g) (round_small hg) hc]
      exact (round_rel hg).map hg (round_small hg)
theorem short_map {g : Gr} (hn : ∀ m ∈ g.nodes, ∀ i ∈ m.nons, 0 ≤ i) : short g = norm (mapN (finN (norm g)) (norm g)) := by
  unfold short
  rw [rounds_map _ _ (norm_small hn) (rounds_end (norm_small hn))]
end Go.Proofs.Ythdbmbabfngakaa.G
