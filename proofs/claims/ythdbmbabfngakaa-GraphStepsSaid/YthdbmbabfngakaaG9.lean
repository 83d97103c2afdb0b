/- Graphs as data: steps on the way leave what is short as it is. -/
import Derived.Test.YthdbmbabfngakaaG8
namespace Go.Proofs.Ythdbmbabfngakaa.G
set_option linter.unusedSimpArgs false
set_option linter.unusedVariables false
set_option linter.unusedSectionVars false
section
variable {g x : Gr} {τ : Int → Int} {D : Int → Prop}
theorem idx_part (h : Part g x τ D) : ∀ {met : List Int}, (∀ z ∈ met, D z) → met.Nodup → ∀ {y : Int}, (y = -1 ∨ D y) → idx (met.map τ) (τ y) = idx met y := by
  intro met hm hnd y hy
  by_cases h1 : y ∈ met
  · have hD := hm y h1
    have h2 := (h.mem hm hD).2 h1
    unfold idx
    rw [if_pos h1, if_pos h2]
    clear h1 h2
    congr 1
    induction met with
    | nil => rfl
    | cons a l ih =>
      have ha := hm a List.mem_cons_self
      rw [List.map_cons, List.idxOf_cons, List.idxOf_cons]
      by_cases e : a = y
      · subst e; simp
      · have e' : ¬ τ a = τ y := fun k => e (h.inj a y ha hD k)
        have ih' := ih (fun z hz => hm z (List.mem_cons_of_mem _ hz)) (List.nodup_cons.1 hnd).2
        simp only [beq_eq_false_iff_ne.2 e, beq_eq_false_iff_ne.2 e', cond_false]
        rw [ih']
  · rw [idx_not h1, idx_not]
    intro h2
    obtain ⟨z, hz, e⟩ := List.mem_map.1 h2
    have hz' := hm z hz
    rcases hy with rfl | hy
    · rw [h.none_] at e
      have := h.rng z hz'
      omega
    · rw [h.inj z y hz' hy e] at hz
      exact h1 hz
theorem Part.orderD (h : Part g x τ D) : ∀ z ∈ G.order g, D z := by
  have := (visits_part_of h (g.nodes.length + x.nodes.length + 1) (visit_part h _) (g.roots.map (G.real g.nodes.length)) [] h.rootsD (by simp)).2
  rw [visits_le g (f := full g) (by unfold full; omega) _ [] (reals_roots g) (Met.nil _) (by simp)] at this
  exact this
/-- What is a part is numbered as the whole. -/
theorem Part.norm (h : Part g x τ D) (hn : ∀ (k : Int) (m : Nd), D k → g.nodes[k.toNat]? = some m → ∃ m', x.nodes[(τ k).toNat]? = some m' ∧ m'.kind = m.kind ∧ m'.info = m.info ∧ m'.nons = m.nons) : norm x = norm g := by
  have ho := h.order
  have hD := h.orderD
  have hi : ∀ y : Int, (y = -1 ∨ D y) → idx (G.order x) (τ y) = idx (G.order g) y := fun y hy => by
    rw [ho]; exact idx_part h hD (order_met g).nodup hy
  have hl : ∀ (l l' : List Int), l'.map (G.real x.nodes.length) = (l.map (G.real g.nodes.length)).map τ → (∀ c ∈ l.map (G.real g.nodes.length), c = -1 ∨ D c) → l'.map (idx (G.order x)) = l.map (idx (G.order g)) := fun l l' e hc => by
    have e1 : l'.map (idx (G.order x)) = (l'.map (G.real x.nodes.length)).map (idx (G.order x)) := by
      rw [List.map_map]; exact List.map_congr_left fun c _ => (idx_real x c).symm
    have e2 : l.map (idx (G.order g)) = (l.map (G.real g.nodes.length)).map (idx (G.order g)) := by
      rw [List.map_map]; exact List.map_congr_left fun c _ => (idx_real g c).symm
    rw [e1, e2, e, List.map_map]
    exact List.map_congr_left fun c hc' => hi c (hc c hc')
  unfold G.norm
  rw [hl g.roots x.roots h.roots h.rootsD]
  congr 1
  rw [ho, List.map_map, ← ho]
  refine List.map_congr_left fun k hk => ?_
  have hDk := hD k hk
  have hr := h.dom k hDk
  have hlt : k.toNat < g.nodes.length := by omega
  have e1 := List.getElem?_eq_getElem hlt
  obtain ⟨m', e2, k1, k2, k3⟩ := hn k _ hDk e1
  simp only [Function.comp, e1, e2]
  have hkk := h.kids k hDk
  have hkd := h.kidsD k hDk
  unfold realKids kidsOf at hkk hkd
  rw [e1, e2] at hkk
  rw [e1] at hkd
  simp only [Option.map_some, Option.getD_some] at hkk hkd
  rw [hl _ _ hkk hkd, k1, k2, k3]
end
/-- All numbers are nodes' numbers, or -1. -/
structure Twos (g : Gr) : Prop where
  roots : ∀ c ∈ g.roots, Two g.nodes.length c
  kids : ∀ m ∈ g.nodes, ∀ c ∈ m.kids, Two g.nodes.length c
  nons : ∀ m ∈ g.nodes, ∀ i ∈ m.nons, 0 ≤ i
theorem Twos.small {g : Gr} (h : Twos g) : Small g := by
  refine ⟨fun c hc => ?_, fun m hm c hc => ?_, h.nons⟩
  · rcases h.roots c hc with e | e <;> omega
  · rcases h.kids m hm c hc with e | e <;> omega
theorem real_two {n : Nat} {c : Int} (h : Two n c) : real n c = c := by
  rcases h with rfl | ⟨h1, h2⟩
  · rfl
  · exact real_in h1 h2
section
variable {g : Gr} (hg : Twos g)
include hg
theorem ord_kid {k : Int} {m : Nd} (hk : k ∈ order g) (hm : nd g k = some m) {c : Int} (hc : c ∈ m.kids) : c = -1 ∨ c ∈ order g := by
  have h2 := hg.kids m (nd_pos hm).2.2.1 c hc
  rcases h2 with e | e
  · exact .inl e
  · have := order_kids g hk (c := c) (by unfold kidsOf; rw [(nd_pos hm).2.2.2]; exact hc) (by rw [real_two (.inr e)]; exact e.1)
    rw [real_two (.inr e)] at this
    exact .inr this
abbrev tau (g : Gr) : Int → Int := idx (order g)
theorem nd_norm {k : Int} {m : Nd} (hk : k ∈ order g) (hm : nd g k = some m) : nd (norm g) (tau g k) = some { m with kids := m.kids.map (tau g) } := by
  obtain ⟨m', e1, e2⟩ := norm_at g hk
  rw [(nd_pos hm).2.2.2] at e1
  cases e1
  exact nd_nodes (idx_mem hk).1 e2
theorem con_norm : ∀ (n : Nat) {k c : Int}, k ∈ order g → ConH g n k c → c ∈ order g ∧ ConH (norm g) n (tau g k) (tau g c)
  | n, k, _, hk, .con a b => ⟨hk, .con (nd_norm hg hk a) b⟩
  | n + 1, k, c, hk, .ind a b d e => by
    have ht := (ord_kid hg hk a (c := _) (by rw [d]; exact List.mem_cons_self)).resolve_left (by have := e.from.1; omega)
    obtain ⟨h1, h2⟩ := con_norm n ht e
    exact ⟨h1, .ind (nd_norm hg hk a) b (by simp [d]; rfl) h2⟩
  | n + 1, k, c, hk, .sel a b d e f f1 f2 f3 f4 => by
    have ht := (ord_kid hg hk a (c := _) (by rw [d]; exact List.mem_cons_self)).resolve_left (by have := f.from.1; omega)
    obtain ⟨h1, h2⟩ := con_norm n ht f
    have hf := (ord_kid hg h1 f1 (c := _) (List.mem_of_getElem? f3)).resolve_left (by have := f4.from.1; omega)
    obtain ⟨h3, h4⟩ := con_norm n hf f4
    exact ⟨h3, .sel (nd_norm hg hk a) b (by simp [d]; rfl) e h2 (nd_norm hg h1 f1) f2 (by simp [f3]) h4⟩
theorem tau_neg {c : Int} (h : c = -1 ∨ c ∈ order g) (h2 : 0 ≤ tau g c) : c ∈ order g := by
  rcases h with rfl | h
  · rw [tau, idx_neg (order_met g) (by decide)] at h2; exact absurd h2 (by decide)
  · exact h
theorem con_back : ∀ (n : Nat) {k c' : Int}, k ∈ order g → ConH (norm g) n (tau g k) c' → ∃ c, c ∈ order g ∧ c' = tau g c ∧ ConH g n k c := by
  intro n
  induction n using Nat.strongRecOn with
  | _ n ih =>
    intro k c' hk hc
    have hr := (order_met g).rng k hk
    obtain ⟨m, hm⟩ := nd_some g hr.1 hr.2
    have hm' := nd_norm hg hk hm
    generalize hkk : tau g k = kk at hc hm'
    cases hc with
    | con a b =>
      rw [hm'] at a
      cases a
      exact ⟨k, hk, hkk.symm, .con hm b⟩
    | ind a b d e =>
      rw [hm'] at a
      cases a
      simp only at b d
      cases hkd : m.kids with
      | nil => rw [hkd] at d; cases d
      | cons t l =>
        rw [hkd] at d
        simp only [List.map_cons, List.cons.injEq] at d
        obtain ⟨rfl, rfl⟩ := d
        have ht := tau_neg hg (ord_kid hg hk hm (c := t) (by rw [hkd]; exact List.mem_cons_self)) e.from.1
        obtain ⟨c, h1, h2, h3⟩ := ih _ (Nat.lt_succ_self _) ht e
        exact ⟨c, h1, h2, .ind hm b hkd h3⟩
    | sel a b d e f f1 f2 f3 f4 =>
      rw [hm'] at a
      cases a
      simp only at b d e f2
      cases hkd : m.kids with
      | nil => rw [hkd] at d; cases d
      | cons t l =>
        rw [hkd] at d
        simp only [List.map_cons, List.cons.injEq] at d
        obtain ⟨rfl, rfl⟩ := d
        have ht := tau_neg hg (ord_kid hg hk hm (c := t) (by rw [hkd]; exact List.mem_cons_self)) f.from.1
        obtain ⟨c1, h1, h2, h3⟩ := ih _ (Nat.lt_succ_self _) ht f
        subst h2
        obtain ⟨mc, e1, _⟩ := h3.end_
        have e2 := nd_norm hg h1 e1
        rw [f1] at e2
        cases e2
        simp only [List.getElem?_map] at f2 f3
        obtain ⟨f', hf, hff⟩ := Option.map_eq_some_iff.1 f3
        subst hff
        have hf' := tau_neg hg (ord_kid hg h1 e1 (c := f') (List.mem_of_getElem? hf)) f4.from.1
        obtain ⟨c, k1, k2, k3⟩ := ih _ (Nat.lt_succ_self _) hf' f4
        exact ⟨c, k1, k2, .sel hm b hkd e h3 e1 f2 hf k3⟩
theorem next_norm {k : Int} (hk : k ∈ order g) : (nextF g k = -1 ∨ nextF g k ∈ order g) ∧ nextF (norm g) (tau g k) = tau g (nextF g k) := by
  have hr := (order_met g).rng k hk
  obtain ⟨m, hm⟩ := nd_some g hr.1 hr.2
  have hm' := nd_norm hg hk hm
  have hno : tau g (-1) = -1 := idx_neg (order_met g) (by decide)
  have nil : ((-1 : Int) = -1 ∨ (-1 : Int) ∈ order g) ∧ (-1 : Int) = tau g (-1) := ⟨.inl rfl, hno.symm⟩
  rw [nextF_at hm, nextF_at hm']
  unfold nextN
  cases hkd : m.kids with
  | nil => exact nil
  | cons t l =>
    have hkt := ord_kid hg hk hm (c := t) (by rw [hkd]; exact List.mem_cons_self)
    simp only [hkd, List.map_cons]
    by_cases hi : m.kind = kInd
    · rw [if_pos hi, if_pos hi]; exact ⟨hkt, rfl⟩
    rw [if_neg hi, if_neg hi]
    by_cases hs : m.kind = kSel
    case neg => rw [if_pos hs, if_pos hs]; exact nil
    rw [if_neg (fun e : m.kind ≠ kSel => e hs), if_neg (fun e : m.kind ≠ kSel => e hs)]
    cases hn : m.nons with
    | nil => exact nil
    | cons i ns =>
      simp only
      by_cases hx : ∃ c, Con g t c
      · obtain ⟨c, q, hq⟩ := hx
        have ht := hkt.resolve_left (by have := hq.from.1; omega)
        obtain ⟨h1, h2⟩ := con_norm hg q ht hq
        obtain ⟨mc, e1, _⟩ := hq.end_
        have e2 := nd_norm hg h1 e1
        rw [selF_con ⟨q, hq⟩ e1, selF_con ⟨q, h2⟩ e2]
        dsimp only
        by_cases hf : mc.info = m.info
        · rw [if_pos hf, if_pos hf, List.getElem?_map]
          cases hfk : mc.kids[i.toNat]? with
          | none => exact nil
          | some f => exact ⟨ord_kid hg h1 e1 (List.mem_of_getElem? hfk), rfl⟩
        · rw [if_neg hf, if_neg hf]; exact nil
      · have hx' : ∀ c, ¬ Con (norm g) (tau g t) c := fun c ⟨q, hq⟩ => by
          have ht := tau_neg hg hkt hq.from.1
          obtain ⟨c', _, _, h3⟩ := con_back hg q ht hq
          exact hx ⟨c', q, h3⟩
        rw [selF_no fun c h => hx ⟨c, h⟩, selF_no hx']
        exact nil
theorem fin_norm {k : Int} (hk : k ∈ order g) : (finN g k < 0 ∨ finN g k ∈ order g) ∧ finN (norm g) (tau g k) = if finN g k < 0 then finN g k else tau g (finN g k) := by
  have hs := hg.small
  have hs' : Small (norm g) := norm_small hg.nons
  have hn : ∀ k : Int, 0 ≤ k → k < g.nodes.length → nextF g k < g.nodes.length := fun k _ _ => nextF_lt hs k
  have hn' : ∀ k : Int, 0 ≤ k → k < (norm g).nodes.length → nextF (norm g) k < (norm g).nodes.length := fun k _ _ => nextF_lt hs' k
  have hlt : ∀ {k : Int}, k ∈ order g → k < g.nodes.length := fun h => ((order_met g).rng _ h).2
  have hlt' : ∀ {k : Int}, k ∈ order g → tau g k < (norm g).nodes.length := fun h => by rw [norm_len]; exact (idx_mem h).2.1
  have fwd : ∀ (d : Nat) (k t : Int), k ∈ order g → ToD (nextF g) d k t → (t < 0 ∨ t ∈ order g) ∧ ToD (nextF (norm g)) d (tau g k) (if t < 0 then t else tau g t) := by
    intro d
    induction d with
    | zero =>
      intro k t hk hd
      obtain ⟨h1, h2⟩ := next_norm hg hk
      have hno : tau g (-1) = -1 := idx_neg (order_met g) (by decide)
      cases hd with
      | stop a b c =>
        have e := h1.resolve_right fun h => by have := ((order_met g).rng _ h).1; omega
        rw [e, hno] at h2
        refine ⟨.inr hk, ?_⟩
        rw [if_neg (by omega)]
        exact .stop (idx_mem hk).1 (by omega) (by omega)
      | lost a b =>
        rcases h1 with h1 | h1
        · omega
        · have := ((order_met g).rng _ h1).1; omega
    | succ d ih =>
      intro k t hk hd
      obtain ⟨h1, h2⟩ := next_norm hg hk
      cases hd with
      | step a b c =>
        have hm := h1.resolve_left (by omega)
        obtain ⟨k1, k2⟩ := ih _ t hm c
        refine ⟨k1, .step (idx_mem hk).1 (by rw [h2]; exact (idx_mem hm).1) (by rw [h2]; exact k2)⟩
  rcases endN_cases hn ((order_met g).rng k hk).1 (hlt hk) with ⟨d, hd⟩ | ⟨hno, he⟩
  · obtain ⟨h1, h2⟩ := fwd d k _ hk hd
    exact ⟨h1, endN_of hn' h2 (hlt' hk)⟩
  · have e : finN g k = -2 := he
    rw [e]
    refine ⟨.inl (by decide), ?_⟩
    rw [if_pos (by decide)]
    rcases endN_cases hn' (k := tau g k) (idx_mem hk).1 (hlt' hk) with ⟨d, hd⟩ | ⟨_, he'⟩
    · exfalso
      have bwd : ∀ (d : Nat) (k t' : Int), k ∈ order g → ToD (nextF (norm g)) d (tau g k) t' → ∃ d2 t, ToD (nextF g) d2 k t := by
        intro d
        induction d with
        | zero =>
          intro k t' hk hd
          obtain ⟨h1, h2⟩ := next_norm hg hk
          have hno : tau g (-1) = -1 := idx_neg (order_met g) (by decide)
          have hneg : nextF g k = -1 := by
            rcases h1 with h1 | h1
            · exact h1
            · have := (idx_mem h1).1
              cases hd with
              | stop a b c => rw [h2] at b; exact absurd b (by unfold tau; omega)
              | lost a b => rw [h2] at b; exact absurd b (by unfold tau; omega)
          exact ⟨0, _, .stop ((order_met g).rng k hk).1 (by omega) (by omega)⟩
        | succ d ih =>
          intro k t' hk hd
          obtain ⟨h1, h2⟩ := next_norm hg hk
          have hno : tau g (-1) = -1 := idx_neg (order_met g) (by decide)
          cases hd with
          | step a b c =>
            rw [h2] at b c
            have hm : nextF g k ∈ order g := tau_neg hg h1 b
            obtain ⟨d2, t, h3⟩ := ih _ t' hm c
            exact ⟨d2 + 1, t, .step ((order_met g).rng k hk).1 ((order_met g).rng _ hm).1 h3⟩
      obtain ⟨d2, t, h3⟩ := bwd d k _ hk hd
      exact hno d2 t h3
    · exact he'
/-- Numbered first or numbered last. -/
theorem norm_map : norm (mapN (finN (norm g)) (norm g)) = norm (mapN (finN g) g) := by
  have hm := order_met g
  have hlen : (mapN (finN g) g).nodes.length = g.nodes.length := by simp [mapN]
  have hlen' : (mapN (finN (norm g)) (norm g)).nodes.length = (order g).length := by simp [mapN, norm_len]
  have hno : tau g (-1) = -1 := idx_neg hm (by decide)
  have key : ∀ c : Int, (c = -1 ∨ c ∈ order g) → real (order g).length (finN (norm g) (tau g c)) = tau g (real g.nodes.length (finN g c)) ∧ (real g.nodes.length (finN g c) = -1 ∨ real g.nodes.length (finN g c) ∈ order g) := by
    intro c hc
    rcases hc with rfl | hc
    · rw [hno, finN_neg g (by decide), finN_neg _ (by decide)]
      exact ⟨by rw [show real g.nodes.length (-1) = -1 from rfl, hno]; rfl, .inl rfl⟩
    · obtain ⟨h1, h2⟩ := fin_norm hg hc
      rw [h2]
      by_cases hn : finN g c < 0
      · rw [if_pos hn]
        have e : ∀ n : Nat, real n (finN g c) = -1 := fun n => by unfold real; rw [if_pos (.inl hn)]
        rw [e, e, hno]
        exact ⟨rfl, .inl rfl⟩
      · rw [if_neg hn]
        have ho := h1.resolve_left hn
        have hr := hm.rng _ ho
        rw [real_in hr.1 hr.2, real_in (idx_mem ho).1 (idx_mem ho).2.1]
        exact ⟨rfl, .inr ho⟩
  have hroot : ∀ c ∈ g.roots, c = -1 ∨ c ∈ order g := fun c hc => by
    rcases hg.roots c hc with e | e
    · exact .inl e
    · have := order_roots g hc (by rw [real_two (.inr e)]; exact e.1)
      rw [real_two (.inr e)] at this
      exact .inr this
  have hA : ∀ (k : Int) (m : Nd), nd g k = some m → (mapN (finN g) g).nodes[k.toNat]? = some { m with kids := m.kids.map (finN g) } := fun k m h => (nd_pos (nd_map (f := finN g) h)).2.2.2
  have hB : ∀ (k : Int) (m : Nd), k ∈ order g → nd g k = some m → (mapN (finN (norm g)) (norm g)).nodes[(tau g k).toNat]? = some { m with kids := (m.kids.map (tau g)).map (finN (norm g)) } := fun k m hk h => (nd_pos (nd_map (f := finN (norm g)) (nd_norm hg hk h))).2.2.2
  have hP : Part (mapN (finN g) g) (mapN (finN (norm g)) (norm g)) (tau g) (· ∈ order g) := by
    refine ⟨fun c hc => by rw [hlen]; exact hm.rng c hc, hno, fun c hc => by rw [hlen']; exact ⟨(idx_mem hc).1, (idx_mem hc).2.1⟩, fun a b ha hb e => idx_inj ha hb e, fun k hk c hc => ?_, fun k hk => ?_, fun c hc => ?_, ?_⟩
    · obtain ⟨m, hmk⟩ := nd_some g (hm.rng k hk).1 (hm.rng k hk).2
      unfold realKids kidsOf at hc
      rw [hA k m hmk, hlen] at hc
      simp only [Option.map_some, Option.getD_some, List.map_map] at hc
      obtain ⟨y, hy, rfl⟩ := List.mem_map.1 hc
      exact (key y (ord_kid hg hk hmk hy)).2
    · obtain ⟨m, hmk⟩ := nd_some g (hm.rng k hk).1 (hm.rng k hk).2
      unfold realKids kidsOf
      rw [hA k m hmk, hB k m hk hmk, hlen, hlen']
      simp only [Option.map_some, Option.getD_some, List.map_map]
      exact List.map_congr_left fun y hy => (key y (ord_kid hg hk hmk hy)).1
    · rw [hlen] at hc
      simp only [mapN, List.map_map] at hc
      obtain ⟨y, hy, rfl⟩ := List.mem_map.1 hc
      exact (key y (hroot y hy)).2
    · rw [hlen, hlen']
      simp only [mapN, norm, List.map_map]
      exact List.map_congr_left fun y hy => (key y (hroot y hy)).1
  refine hP.norm fun k m' hk hm' => ?_
  obtain ⟨m, hmk⟩ := nd_some g (hm.rng k hk).1 (hm.rng k hk).2
  rw [hA k m hmk] at hm'
  cases hm'
  exact ⟨_, hB k m hk hmk, rfl, rfl, rfl⟩
end
/-- The same graph, with -1 for what is no node's number. -/
def cl (g : Gr) : Gr := mapN (real g.nodes.length) g
theorem cl_len (g : Gr) : (cl g).nodes.length = g.nodes.length := by simp [cl, mapN]
theorem cl_twos {g : Gr} (hn : ∀ m ∈ g.nodes, ∀ i ∈ m.nons, 0 ≤ i) : Twos (cl g) := by
  refine ⟨fun c hc => ?_, fun m hm c hc => ?_, fun m hm i hi => ?_⟩
  · simp only [cl, mapN] at hc
    obtain ⟨y, _, rfl⟩ := List.mem_map.1 hc
    rw [cl_len]; exact two_real _ y
  · simp only [cl, mapN] at hm
    obtain ⟨m', _, rfl⟩ := List.mem_map.1 hm
    obtain ⟨y, _, rfl⟩ := List.mem_map.1 hc
    rw [cl_len]; exact two_real _ y
  · simp only [cl, mapN] at hm
    obtain ⟨m', h1, rfl⟩ := List.mem_map.1 hm
    exact hn m' h1 i hi
theorem cl_turn (g : Gr) : Turn g (cl g) (fun c => c) := by
  refine ⟨cl_len g, rfl, fun c h0 h1 => ⟨h0, h1⟩, fun a b _ _ _ _ e => e, fun k m h0 hm => ?_, rfl⟩
  simp only [cl, mapN, List.getElem?_map, hm, Option.map_some]
theorem norm_cl (g : Gr) : norm (cl g) = norm g := (cl_turn g).norm
/-- What is short, out of what one comes to in the end. -/
theorem short_cl {g : Gr} (hn : ∀ m ∈ g.nodes, ∀ i ∈ m.nons, 0 ≤ i) : short g = norm (mapN (finN (cl g)) (cl g)) := by
  rw [short_map hn, ← norm_cl g]
  exact norm_map (cl_twos hn)
/-- Steps on the way leave what is short as it is. -/
theorem short_rel {g g' : Gr} (hn : ∀ m ∈ g.nodes, ∀ i ∈ m.nons, 0 ≤ i) (hn' : ∀ m ∈ g'.nodes, ∀ i ∈ m.nons, 0 ≤ i) (h : RelR (cl g) (cl g')) : short g' = short g := by
  rw [short_cl hn, short_cl hn', h.map (cl_twos hn).small (cl_twos hn').small]
end Go.Proofs.Ythdbmbabfngakaa.G
