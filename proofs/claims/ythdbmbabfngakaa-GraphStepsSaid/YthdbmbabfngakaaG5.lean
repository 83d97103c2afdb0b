/- Graphs as data: what is short stays so. -/
import Derived.Test.YthdbmbabfngakaaG3
namespace Go.Proofs.Ythdbmbabfngakaa.G
set_option linter.unusedSimpArgs false
set_option linter.unusedVariables false
/-- What is reached of one graph is another one, under other numbers. -/
structure Part (g x : Gr) (τ : Int → Int) (D : Int → Prop) : Prop where
  dom : ∀ c, D c → 0 ≤ c ∧ c < g.nodes.length
  none_ : τ (-1) = -1
  rng : ∀ c, D c → 0 ≤ τ c ∧ τ c < x.nodes.length
  inj : ∀ a b, D a → D b → τ a = τ b → a = b
  kidsD : ∀ k, D k → ∀ c ∈ realKids g k, c = -1 ∨ D c
  kids : ∀ k, D k → realKids x (τ k) = (realKids g k).map τ
  rootsD : ∀ c ∈ g.roots.map (real g.nodes.length), c = -1 ∨ D c
  roots : x.roots.map (real x.nodes.length) = (g.roots.map (real g.nodes.length)).map τ
theorem visits_le (g : Gr) {f f' : Nat} (hf : f ≤ f') (l met : List Int) (hl : Reals g.nodes.length l) (hm : Met g.nodes.length met) (h : g.nodes.length < f + met.length) : visits g f' l met = visits g f l met := by
  induction hf with
  | refl => rfl
  | step hf ih => rw [← ih]; exact (visits_more g _ l met hl hm (by have := hf; simp at this; omega)).symm
section
variable {g x : Gr} {τ : Int → Int} {D : Int → Prop}
theorem Part.mem (h : Part g x τ D) {met : List Int} (hm : ∀ z ∈ met, D z) {y : Int} (hy : D y) : τ y ∈ met.map τ ↔ y ∈ met := by
  constructor
  · intro hy2
    obtain ⟨z, hz, e⟩ := List.mem_map.1 hy2
    rw [← h.inj z y (hm z hz) hy e]; exact hz
  · exact List.mem_map_of_mem
theorem visits_part_of (h : Part g x τ D) (f : Nat) (hv : ∀ (y : Int) (met : List Int), (y = -1 ∨ D y) → (∀ z ∈ met, D z) → visit x f (τ y) (met.map τ) = (visit g f y met).map τ ∧ ∀ z ∈ visit g f y met, D z) :
    ∀ (l met : List Int), (∀ y ∈ l, y = -1 ∨ D y) → (∀ z ∈ met, D z) → visits x f (l.map τ) (met.map τ) = (visits g f l met).map τ ∧ ∀ z ∈ visits g f l met, D z
  | [], met, _, hm => ⟨rfl, hm⟩
  | y :: l, met, hl, hm => by
    obtain ⟨h1, h2⟩ := hv y met (hl y List.mem_cons_self) hm
    have := visits_part_of h f hv l _ (fun z hz => hl z (List.mem_cons_of_mem _ hz)) h2
    refine ⟨?_, this.2⟩
    show visits x f (l.map τ) (visit x f (τ y) (met.map τ)) = _
    rw [h1]
    exact this.1
theorem visit_part (h : Part g x τ D) : ∀ (f : Nat) (y : Int) (met : List Int), (y = -1 ∨ D y) → (∀ z ∈ met, D z) → visit x f (τ y) (met.map τ) = (visit g f y met).map τ ∧ ∀ z ∈ visit g f y met, D z
  | 0, y, met, _, hm => ⟨rfl, hm⟩
  | f + 1, y, met, hy, hm => by
    by_cases old : y < 0 ∨ y ∈ met
    · rw [visit_old g old, visit_old x]
      · exact ⟨rfl, hm⟩
      rcases hy with rfl | hy
      · rw [h.none_]; exact .inl (by decide)
      · have := h.dom y hy
        exact .inr (List.mem_map_of_mem (old.resolve_left (by omega)))
    have hD : D y := by
      rcases hy with rfl | hy
      · exact absurd (.inl (by decide)) old
      · exact hy
    have hr := h.rng y hD
    have hn : y ∉ met := fun hm => old (.inr hm)
    have old' : ¬ (τ y < 0 ∨ τ y ∈ met.map τ) := by
      rintro (k | k)
      · omega
      · exact hn ((h.mem hm hD).1 k)
    have e1 : visit g (f + 1) y met = visits g f (realKids g y) (met ++ [y]) := by rw [visit, if_neg old]
    have e2 : visit x (f + 1) (τ y) (met.map τ) = visits x f (realKids x (τ y)) (met.map τ ++ [τ y]) := by rw [visit, if_neg old']
    rw [e1, e2, h.kids y hD]
    have := visits_part_of h f (visit_part h f) (realKids g y) (met ++ [y]) (h.kidsD y hD) (fun z hz => by
      rcases List.mem_append.1 hz with hz | hz
      · exact hm z hz
      · rw [List.mem_singleton.1 hz]; exact hD)
    rw [List.map_append] at this
    exact this
theorem Part.order (h : Part g x τ D) : order x = (order g).map τ := by
  have := (visits_part_of h (g.nodes.length + x.nodes.length + 1) (visit_part h _) (g.roots.map (G.real g.nodes.length)) [] h.rootsD (by simp)).1
  rw [← h.roots] at this
  rw [visits_le g (f := full g) (by unfold full; omega) _ [] (reals_roots g) (Met.nil _) (by simp)] at this
  have e : visits x (g.nodes.length + x.nodes.length + 1) (x.roots.map (G.real x.nodes.length)) ([].map τ) = visits x (full x) (x.roots.map (G.real x.nodes.length)) [] := visits_le x (f := full x) (by unfold full; omega) _ [] (reals_roots x) (Met.nil _) (by simp)
  rw [e] at this
  exact this
end
theorem idx_neg {l : List Int} {n : Nat} (hm : Met n l) {x : Int} (h : x < 0) : idx l x = -1 := idx_not fun hx => by have := hm.rng x hx; omega
theorem idx_mem {l : List Int} {x : Int} (h : x ∈ l) : 0 ≤ idx l x ∧ idx l x < l.length ∧ l[(idx l x).toNat]? = some x := by
  have := List.idxOf_lt_length_iff.2 h
  unfold idx
  rw [if_pos h]
  refine ⟨by omega, by omega, ?_⟩
  rw [Int.toNat_natCast, List.getElem?_eq_getElem this]
  congr 1
  exact List.getElem_idxOf this
theorem idx_inj {l : List Int} {a b : Int} (ha : a ∈ l) (hb : b ∈ l) (e : idx l a = idx l b) : a = b := by
  have h1 := (idx_mem ha).2.2
  have h2 := (idx_mem hb).2.2
  rw [e, h2] at h1
  exact (Option.some.inj h1).symm
theorem idx_pos {l : List Int} {x : Int} (h : 0 ≤ idx l x) : x ∈ l := by
  by_cases hx : x ∈ l
  · exact hx
  · rw [idx_not hx] at h; omega
theorem norm_at (g : Gr) {k : Int} (hk : k ∈ order g) : ∃ m, g.nodes[k.toNat]? = some m ∧ (norm g).nodes[(idx (order g) k).toNat]? = some { m with kids := m.kids.map (idx (order g)) } := by
  have hr := (order_met g).rng k hk
  have hlt : k.toNat < g.nodes.length := by omega
  refine ⟨_, List.getElem?_eq_getElem hlt, ?_⟩
  unfold norm
  dsimp only
  rw [List.getElem?_map, (idx_mem hk).2.2]
  simp only [Option.map_some, List.getElem?_eq_getElem hlt]
/-- What is numbered in the order of meeting is a part. -/
theorem norm_part (g : Gr) : Part g (norm g) (idx (order g)) (· ∈ order g) := by
  have hm := order_met g
  have hreal : ∀ c : Int, (G.real (norm g).nodes.length (idx (order g) c)) = idx (order g) c := fun c => by
    rw [norm_len]
    by_cases h : c ∈ order g
    · have := idx_mem h
      exact real_in this.1 this.2.1
    · rw [idx_not h]; rfl
  refine ⟨fun c hc => hm.rng c hc, idx_neg hm (by decide), fun c hc => ?_, fun a b ha hb e => idx_inj ha hb e, fun k hk c hc => ?_, fun k hk => ?_, fun c hc => ?_, ?_⟩
  · rw [norm_len]; exact ⟨(idx_mem hc).1, (idx_mem hc).2.1⟩
  · obtain ⟨y, hy, rfl⟩ := List.mem_map.1 hc
    rcases two_real g.nodes.length y with h | h
    · exact .inl h
    · exact .inr (order_kids g hk hy h.1)
  · obtain ⟨m, h1, h2⟩ := norm_at g hk
    unfold realKids kidsOf
    rw [h1, h2]
    simp only [Option.map_some, Option.getD_some, List.map_map]
    exact List.map_congr_left fun c _ => by
      show G.real _ (idx _ c) = idx _ (G.real _ c)
      rw [hreal, idx_real]
  · obtain ⟨y, hy, rfl⟩ := List.mem_map.1 hc
    rcases two_real g.nodes.length y with h | h
    · exact .inl h
    · exact .inr (order_roots g hy h.1)
  · show ((g.roots.map (idx (order g))).map _) = _
    rw [List.map_map, List.map_map]
    exact List.map_congr_left fun c _ => by
      show G.real _ (idx _ c) = idx _ (G.real _ c)
      rw [hreal, idx_real]
/-- Numbered in the order of meeting, the order is that of the numbers. -/
theorem order_norm (g : Gr) : order (norm g) = (List.range (norm g).nodes.length).map Int.ofNat := by
  rw [(norm_part g).order, norm_len]
  have hm := order_met g
  refine List.ext_getElem? fun i => ?_
  rw [List.getElem?_map, List.getElem?_map]
  by_cases hi : i < (order g).length
  · rw [List.getElem?_eq_getElem hi, List.getElem?_range hi]
    simp only [Option.map_some]
    congr 1
    have h1 := List.getElem_mem hi
    unfold idx
    rw [if_pos h1]
    have : (order g).idxOf (order g)[i] = i := by
      have hlt := List.idxOf_lt_length_iff.2 h1
      have e := List.getElem_idxOf hlt
      have hp := List.pairwise_iff_getElem.1 hm.nodup
      rcases Nat.lt_trichotomy ((order g).idxOf (order g)[i]) i with h | h | h
      · exact absurd e (hp _ _ hlt hi h)
      · exact h
      · exact absurd e.symm (hp _ _ hi hlt h)
    rw [this]; rfl
  · rw [List.getElem?_eq_none (by omega), List.getElem?_eq_none (by simp; omega)]; rfl
theorem idx_range (n : Nat) {x : Int} (h0 : 0 ≤ x) (h : x < n) : idx ((List.range n).map Int.ofNat) x = x := by
  have hx : x ∈ (List.range n).map Int.ofNat := List.mem_map.2 ⟨x.toNat, by rw [List.mem_range]; omega, by show (x.toNat : Int) = x; omega⟩
  have := (idx_mem hx).2.2
  have h1 := (idx_mem hx).1
  rw [List.getElem?_map] at this
  cases h2 : (List.range n)[(idx ((List.range n).map Int.ofNat) x).toNat]? with
  | none => rw [h2] at this; simp at this
  | some y =>
    rw [h2] at this
    obtain ⟨hlt, e⟩ := List.getElem?_eq_some_iff.1 h2
    rw [List.getElem_range] at e
    simp only [Option.map_some, Option.some.injEq] at this
    have : (y : Int) = x := this
    omega
end Go.Proofs.Ythdbmbabfngakaa.G
/- Graphs as data: what is short is numbered in order, and nothing in it is on the way. -/
namespace Go.Proofs.Ythdbmbabfngakaa.G
set_option linter.unusedSimpArgs false
set_option linter.unusedVariables false
theorem idx_two (l : List Int) (x : Int) : Two l.length (idx l x) := by
  by_cases h : x ∈ l
  · have := idx_mem h
    exact .inr ⟨this.1, this.2.1⟩
  · exact .inl (idx_not h)
theorem idx_range_two (n : Nat) {x : Int} (h : Two n x) : idx ((List.range n).map Int.ofNat) x = x := by
  rcases h with rfl | ⟨h0, h1⟩
  · refine idx_not fun hx => ?_
    obtain ⟨y, _, e⟩ := List.mem_map.1 hx
    have : (y : Int) = -1 := e
    omega
  · exact idx_range n h0 h1
theorem norm_kids_two (g : Gr) {m : Nd} (hm : m ∈ (norm g).nodes) : ∀ c ∈ m.kids, Two (norm g).nodes.length c := by
  rw [norm_len]
  obtain ⟨k, hk, rfl⟩ := List.mem_map.1 hm
  split
  · intro c hc
    obtain ⟨y, _, rfl⟩ := List.mem_map.1 hc
    exact idx_two _ _
  · simp
theorem norm_roots_two (g : Gr) : ∀ c ∈ (norm g).roots, Two (norm g).nodes.length c := by
  rw [norm_len]
  intro c hc
  obtain ⟨y, _, rfl⟩ := List.mem_map.1 hc
  exact idx_two _ _
theorem norm_of_range {s : Gr} (ho : order s = (List.range s.nodes.length).map Int.ofNat) (hr : ∀ c ∈ s.roots, Two s.nodes.length c) (hk : ∀ m ∈ s.nodes, ∀ c ∈ m.kids, Two s.nodes.length c) : norm s = s := by
  obtain ⟨r, ns⟩ := s
  unfold norm
  rw [ho]
  dsimp only at hr hk ⊢
  congr 1
  · exact (List.map_congr_left fun c hc => idx_range_two _ (hr c hc)).trans (List.map_id _)
  · refine List.ext_getElem? fun i => ?_
    rw [List.getElem?_map, List.getElem?_map]
    by_cases hi : i < ns.length
    · rw [List.getElem?_range hi, List.getElem?_eq_getElem hi]
      simp only [Option.map_some]
      have e : (Int.ofNat i).toNat = i := rfl
      rw [e, List.getElem?_eq_getElem hi]
      simp only
      congr 1
      have := hk ns[i] (List.getElem_mem hi)
      have e2 : ns[i].kids.map (idx ((List.range ns.length).map Int.ofNat)) = ns[i].kids := (List.map_congr_left fun c hc => idx_range_two _ (this c hc)).trans (List.map_id _)
      rw [e2]
    · rw [List.getElem?_eq_none (by simpa using hi), List.getElem?_eq_none (by omega)]; rfl
theorem norm_norm (g : Gr) : norm (norm g) = norm g := norm_of_range (order_norm g) (norm_roots_two g) fun m hm => norm_kids_two g hm
/-- A node that leads nowhere leads nowhere under its new number. -/
theorem stays_norm {f : Gr} (hf : Small f) {y : Int} (hy : y ∈ order f) (h : Stays f y) : Stays (norm f) (idx (order f) y) := by
  have hm := order_met f
  have hr := hm.rng y hy
  obtain ⟨m, h1, h2⟩ := norm_at f hy
  have hmm : m ∈ f.nodes := List.mem_of_getElem? h1
  have hl := nx_at hr.1 h1
  have hl2 := nx_at (g := norm f) (idx_mem hy).1 h2
  have hs : nx f y < 0 ∧ nx f y ≠ -2 := h.resolve_left (by omega)
  rw [hl] at hs
  have goal : nx (norm f) (idx (order f) y) = -1 := by
    rw [hl2]
    unfold leadsN at hs ⊢
    cases hk : m.kids with
    | nil => rfl
    | cons to l =>
      rw [hk] at hs
      simp only [List.map_cons] at hs ⊢
      have hto := hf.kids m hmm to (by rw [hk]; exact List.mem_cons_self)
      by_cases hi : m.kind = kInd
      · rw [if_pos hi] at hs ⊢
        exact idx_neg hm hs.1
      rw [if_neg hi] at hs ⊢
      by_cases hks : m.kind ≠ kSel ∨ to < 0
      · rw [if_pos]
        exact hks.imp id fun h => by rw [idx_neg hm h]; decide
      rw [if_neg hks] at hs
      have hto0 : 0 ≤ to := by omega
      have hto2 : to ∈ order f := by
        have := order_kids f hy (c := to) (by unfold kidsOf; rw [h1]; simp [hk]) (by rw [real_in hto0 hto]; exact hto0)
        rwa [real_in hto0 hto] at this
      have hto3 := idx_mem hto2
      rw [if_neg (by rintro (h | h); exact hks (.inl h); omega)]
      cases hno : m.nons with
      | nil => rfl
      | cons i ns =>
        have hi0 := hf.nons m hmm i (by rw [hno]; exact List.mem_cons_self)
        obtain ⟨c, k1, k2⟩ := norm_at f hto2
        have hcm : c ∈ f.nodes := List.mem_of_getElem? k1
        rw [hno, k1] at hs
        rw [k2]
        simp only [List.length_map] at hs ⊢
        by_cases hb : c.kind ≠ kCon ∨ c.info ≠ m.info ∨ (c.kids.length : Int) ≤ i
        · rw [if_pos hb]
        rw [if_neg hb] at hs ⊢
        have hil : i.toNat < c.kids.length := by
          have : ¬ (c.kids.length : Int) ≤ i := fun h => hb (.inr (.inr h))
          omega
        rw [List.getElem?_eq_getElem hil] at hs
        rw [List.getElem?_map, List.getElem?_eq_getElem hil]
        simp only [Option.map_some, Option.getD_some] at hs ⊢
        exact idx_neg hm hs.1
  rw [Stays, goal]
  exact .inr ⟨by decide, by decide⟩
theorem put_norm {f : Gr} (hf : Small f) {y : Int} (hy : put f y = y) (hlt : y < f.nodes.length) : Stays (norm f) (idx (order f) y) := by
  by_cases h : y ∈ order f
  · have := put_stays hf hlt
    rw [hy] at this
    exact stays_norm hf h this
  · rw [idx_not h]; exact .inl (by decide)
/-- What is clean is clean under its new numbers. -/
theorem clean_norm {f : Gr} (hf : Small f) (h : Clean f) : Clean (norm f) := by
  refine ⟨fun x hx => ?_, fun m hm x hx => ?_⟩
  · obtain ⟨y, hy, rfl⟩ := List.mem_map.1 hx
    exact put_of_stays (put_norm hf (h.1 y hy) (hf.roots y hy))
  · obtain ⟨k, hk, rfl⟩ := List.mem_map.1 hm
    split at hx
    · rename_i m' hm'
      have hmm := List.mem_of_getElem? hm'
      obtain ⟨y, hy, rfl⟩ := List.mem_map.1 hx
      exact put_of_stays (put_norm hf (h.2 m' hmm y hy) (hf.kids m' hmm y hy))
    · simp at hx
theorem rounds_small : ∀ (k : Nat) (g : Gr), Small g → Small (rounds k g)
  | 0, g, h => h
  | k + 1, g, h => by
    rw [rounds]
    split
    · exact h
    · exact rounds_small k _ (round_small h)
/-- The rounds' end. -/
theorem rounds_end {g : Gr} (hg : Small g) : Clean (rounds (g.nodes.length + 2) g) := (rounds_more (g.nodes.length + 2) g hg (.inr (by omega)) _ (Nat.le_refl _)).2
theorem rounds_clean {g : Gr} (h : Clean g) : ∀ k, rounds k g = g
  | 0 => rfl
  | k + 1 => by rw [rounds, if_pos h]
theorem short_norm (g : Gr) : norm (short g) = short g := norm_norm _
section
variable {g : Gr} (hn : ∀ m ∈ g.nodes, ∀ i ∈ m.nons, 0 ≤ i)
include hn
theorem short_clean : Clean (short g) := clean_norm (rounds_small _ _ (norm_small hn)) (rounds_end (norm_small hn))
/-- What is short stays so. -/
theorem short_short : short (short g) = short g := by
  have e : short (short g) = norm (rounds ((norm (short g)).nodes.length + 2) (norm (short g))) := rfl
  rw [e, short_norm g, rounds_clean (short_clean hn), short_norm g]
/-- Nothing in it is on the way. -/
theorem short_stays {x : Int} (hx : x ∈ (short g).roots ∨ ∃ m ∈ (short g).nodes, x ∈ m.kids) : Two (short g).nodes.length x ∧ (0 ≤ x → nx (short g) x < 0) := by
  have hc := short_clean hn
  have h2 : Two (short g).nodes.length x := by
    rcases hx with hx | ⟨m, hm, hx⟩
    · exact norm_roots_two _ x hx
    · exact norm_kids_two _ hm x hx
  refine ⟨h2, fun h0 => ?_⟩
  have hs : Small (short g) := by
    refine norm_small fun m hm i hi => ?_
    exact (rounds_small _ _ (norm_small hn)).nons m hm i hi
  have hp : put (short g) x = x := by
    rcases hx with hx | ⟨m, hm, hx⟩
    · exact hc.1 x hx
    · exact hc.2 m hm x hx
  have := put_stays hs (k := x) (by rcases h2 with h | h <;> omega)
  rw [hp] at this
  exact (this.resolve_left (by omega)).1
end
end Go.Proofs.Ythdbmbabfngakaa.G
