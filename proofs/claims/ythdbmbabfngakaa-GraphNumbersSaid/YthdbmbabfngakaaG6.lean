/- Graphs as data: what is short is numbered in order, and nothing in it is on the way. -/
import Derived.Test.YthdbmbabfngakaaG5
namespace Go.Proofs.Ythdbmbabfngakaa.G
set_option linter.unusedSimpArgs false
set_option linter.unusedVariables false
theorem idx_two (l : List Int) (x : Int) : Two l.length (idx l x) := by
  by_cases h : x ∈ l
  · have := idx_mem h
    exact .inr ⟨this.1, this.2.1⟩
  · exact .inl (idx_not h)
theorem idx_range_two (n : Nat) {x : Int} (h : Two n x) : idx ((List.range n).map Int.ofNat) x = x := by
  rcases h with rfl | ⟨h0, h1⟩
  · refine idx_not fun hx => ?_
    obtain ⟨y, _, e⟩ := List.mem_map.1 hx
    have : (y : Int) = -1 := e
    omega
  · exact idx_range n h0 h1
theorem norm_kids_two (g : Gr) {m : Nd} (hm : m ∈ (norm g).nodes) : ∀ c ∈ m.kids, Two (norm g).nodes.length c := by
  rw [norm_len]
  obtain ⟨k, hk, rfl⟩ := List.mem_map.1 hm
  split
  · intro c hc
    obtain ⟨y, _, rfl⟩ := List.mem_map.1 hc
    exact idx_two _ _
  · simp
theorem norm_roots_two (g : Gr) : ∀ c ∈ (norm g).roots, Two (norm g).nodes.length c := by
  rw [norm_len]
  intro c hc
  obtain ⟨y, _, rfl⟩ := List.mem_map.1 hc
  exact idx_two _ _
theorem norm_of_range {s : Gr} (ho : order s = (List.range s.nodes.length).map Int.ofNat) (hr : ∀ c ∈ s.roots, Two s.nodes.length c) (hk : ∀ m ∈ s.nodes, ∀ c ∈ m.kids, Two s.nodes.length c) : norm s = s := by
  obtain ⟨r, ns⟩ := s
  unfold norm
  rw [ho]
  dsimp only at hr hk ⊢
  congr 1
  · exact (List.map_congr_left fun c hc => idx_range_two _ (hr c hc)).trans (List.map_id _)
  · refine List.ext_getElem? fun i => ?_
    rw [List.getElem?_map, List.getElem?_map]
    by_cases hi : i < ns.length
    · rw [List.getElem?_range hi, List.getElem?_eq_getElem hi]
      simp only [Option.map_some]
      have e : (Int.ofNat i).toNat = i := rfl
      rw [e, List.getElem?_eq_getElem hi]
      simp only
      congr 1
      have := hk ns[i] (List.getElem_mem hi)
      have e2 : ns[i].kids.map (idx ((List.range ns.length).map Int.ofNat)) = ns[i].kids := (List.map_congr_left fun c hc => idx_range_two _ (this c hc)).trans (List.map_id _)
      rw [e2]
    · rw [List.getElem?_eq_none (by simpa using hi), List.getElem?_eq_none (by omega)]; rfl
theorem norm_norm (g : Gr) : norm (norm g) = norm g := norm_of_range (order_norm g) (norm_roots_two g) fun m hm => norm_kids_two g hm
/-- A node that leads nowhere leads nowhere under its new number. -/
theorem stays_norm {f : Gr} (hf : Small f) {y : Int} (hy : y ∈ order f) (h : Stays f y) : Stays (norm f) (idx (order f) y) := by
  have hm := order_met f
  have hr := hm.rng y hy
  obtain ⟨m, h1, h2⟩ := norm_at f hy
  have hmm : m ∈ f.nodes := List.mem_of_getElem? h1
  have hl := nx_at hr.1 h1
  have hl2 := nx_at (g := norm f) (idx_mem hy).1 h2
  have hs : nx f y < 0 ∧ nx f y ≠ -2 := h.resolve_left (by omega)
  rw [hl] at hs
  have goal : nx (norm f) (idx (order f) y) = -1 := by
    rw [hl2]
    unfold leadsN at hs ⊢
    cases hk : m.kids with
    | nil => rfl
    | cons to l =>
      rw [hk] at hs
      simp only [List.map_cons] at hs ⊢
      have hto := hf.kids m hmm to (by rw [hk]; exact List.mem_cons_self)
      by_cases hi : m.kind = kInd
      · rw [if_pos hi] at hs ⊢
        exact idx_neg hm hs.1
      rw [if_neg hi] at hs ⊢
      by_cases hks : m.kind ≠ kSel ∨ to < 0
      · rw [if_pos]
        exact hks.imp id fun h => by rw [idx_neg hm h]; decide
      rw [if_neg hks] at hs
      have hto0 : 0 ≤ to := by omega
      have hto2 : to ∈ order f := by
        have := order_kids f hy (c := to) (by unfold kidsOf; rw [h1]; simp [hk]) (by rw [real_in hto0 hto]; exact hto0)
        rwa [real_in hto0 hto] at this
      have hto3 := idx_mem hto2
      rw [if_neg (by rintro (h | h); exact hks (.inl h); omega)]
      cases hno : m.nons with
      | nil => rfl
      | cons i ns =>
        have hi0 := hf.nons m hmm i (by rw [hno]; exact List.mem_cons_self)
        obtain ⟨c, k1, k2⟩ := norm_at f hto2
        have hcm : c ∈ f.nodes := List.mem_of_getElem? k1
        rw [hno, k1] at hs
        rw [k2]
        simp only [List.length_map] at hs ⊢
        by_cases hb : c.kind ≠ kCon ∨ c.info ≠ m.info ∨ (c.kids.length : Int) ≤ i
        · rw [if_pos hb]
        rw [if_neg hb] at hs ⊢
        have hil : i.toNat < c.kids.length := by
          have : ¬ (c.kids.length : Int) ≤ i := fun h => hb (.inr (.inr h))
          omega
        rw [List.getElem?_eq_getElem hil] at hs
        rw [List.getElem?_map, List.getElem?_eq_getElem hil]
        simp only [Option.map_some, Option.getD_some] at hs ⊢
        exact idx_neg hm hs.1
  rw [Stays, goal]
  exact .inr ⟨by decide, by decide⟩
theorem put_norm {f : Gr} (hf : Small f) {y : Int} (hy : put f y = y) (hlt : y < f.nodes.length) : Stays (norm f) (idx (order f) y) := by
  by_cases h : y ∈ order f
  · have := put_stays hf hlt
    rw [hy] at this
    exact stays_norm hf h this
  · rw [idx_not h]; exact .inl (by decide)
/-- What is clean is clean under its new numbers. -/
theorem clean_norm {f : Gr} (hf : Small f) (h : Clean f) : Clean (norm f) := by
  refine ⟨fun x hx => ?_, fun m hm x hx => ?_⟩
  · obtain ⟨y, hy, rfl⟩ := List.mem_map.1 hx
    exact put_of_stays (put_norm hf (h.1 y hy) (hf.roots y hy))
  · obtain ⟨k, hk, rfl⟩ := List.mem_map.1 hm
    split at hx
    · rename_i m' hm'
      have hmm := List.mem_of_getElem? hm'
      obtain ⟨y, hy, rfl⟩ := List.mem_map.1 hx
      exact put_of_stays (put_norm hf (h.2 m' hmm y hy) (hf.kids m' hmm y hy))
    · simp at hx
theorem rounds_small : ∀ (k : Nat) (g : Gr), Small g → Small (rounds k g)
  | 0, g, h => h
  | k + 1, g, h => by
    rw [rounds]
    split
    · exact h
    · exact rounds_small k _ (round_small h)
/-- The rounds' end. -/
theorem rounds_end {g : Gr} (hg : Small g) : Clean (rounds (g.nodes.length + 2) g) := (rounds_more (g.nodes.length + 2) g hg (.inr (by omega)) _ (Nat.le_refl _)).2
theorem rounds_clean {g : Gr} (h : Clean g) : ∀ k, rounds k g = g
  | 0 => rfl
  | k + 1 => by rw [rounds, if_pos h]
theorem short_norm (g : Gr) : norm (short g) = short g := norm_norm _
section
variable {g : Gr} (hn : ∀ m ∈ g.nodes, ∀ i ∈ m.nons, 0 ≤ i)
include hn
theorem short_clean : Clean (short g) := clean_norm (rounds_small _ _ (norm_small hn)) (rounds_end (norm_small hn))
/-- What is short stays so. -/
theorem short_short : short (short g) = short g := by
  have e : short (short g) = norm (rounds ((norm (short g)).nodes.length + 2) (norm (short g))) := rfl
  rw [e, short_norm g, rounds_clean (short_clean hn), short_norm g]
/-- Nothing in it is on the way. -/
theorem short_stays {x : Int} (hx : x ∈ (short g).roots ∨ ∃ m ∈ (short g).nodes, x ∈ m.kids) : Two (short g).nodes.length x ∧ (0 ≤ x → nx (short g) x < 0) := by
  have hc := short_clean hn
  have h2 : Two (short g).nodes.length x := by
    rcases hx with hx | ⟨m, hm, hx⟩
    · exact norm_roots_two _ x hx
    · exact norm_kids_two _ hm x hx
  refine ⟨h2, fun h0 => ?_⟩
  have hs : Small (short g) := by
    refine norm_small fun m hm i hi => ?_
    exact (rounds_small _ _ (norm_small hn)).nons m hm i hi
  have hp : put (short g) x = x := by
    rcases hx with hx | ⟨m, hm, hx⟩
    · exact hc.1 x hx
    · exact hc.2 m hm x hx
  have := put_stays hs (k := x) (by rcases h2 with h | h <;> omega)
  rw [hp] at this
  exact (this.resolve_left (by omega)).1
end
end Go.Proofs.Ythdbmbabfngakaa.G
