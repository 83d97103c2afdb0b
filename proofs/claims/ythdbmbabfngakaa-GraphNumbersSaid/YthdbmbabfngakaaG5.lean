/- Graphs as data: what is short stays so. -/
import Derived.Test.YthdbmbabfngakaaG4
namespace Go.Proofs.Ythdbmbabfngakaa.G
set_option linter.unusedSimpArgs false
set_option linter.unusedVariables false
/-- What is reached of one graph is another one, under other numbers. -/
structure Part (g x : Gr) (τ : Int → Int) (D : Int → Prop) : Prop where
  dom : ∀ c, D c → 0 ≤ c ∧ c < g.nodes.length
  none_ : τ (-1) = -1
  rng : ∀ c, D c → 0 ≤ τ c ∧ τ c < x.nodes.length
  inj : ∀ a b, D a → D b → τ a = τ b → a = b
  kidsD : ∀ k, D k → ∀ c ∈ realKids g k, c = -1 ∨ D c
  kids : ∀ k, D k → realKids x (τ k) = (realKids g k).map τ
  rootsD : ∀ c ∈ g.roots.map (real g.nodes.length), c = -1 ∨ D c
  roots : x.roots.map (real x.nodes.length) = (g.roots.map (real g.nodes.length)).map τ
theorem visits_le (g : Gr) {f f' : Nat} (hf : f ≤ f') (l met : List Int) (hl : Reals g.nodes.length l) (hm : Met g.nodes.length met) (h : g.nodes.length < f + met.length) : visits g f' l met = visits g f l met := by
  induction hf with
  | refl => rfl
  | step hf ih => rw [← ih]; exact (visits_more g _ l met hl hm (by have := hf; simp at this; omega)).symm
section
variable {g x : Gr} {τ : Int → Int} {D : Int → Prop}
theorem Part.mem (h : Part g x τ D) {met : List Int} (hm : ∀ z ∈ met, D z) {y : Int} (hy : D y) : τ y ∈ met.map τ ↔ y ∈ met := by
  constructor
  · intro hy2
    obtain ⟨z, hz, e⟩ := List.mem_map.1 hy2
    rw [← h.inj z y (hm z hz) hy e]; exact hz
  · exact List.mem_map_of_mem
theorem visits_part_of (h : Part g x τ D) (f : Nat) (hv : ∀ (y : Int) (met : List Int), (y = -1 ∨ D y) → (∀ z ∈ met, D z) → visit x f (τ y) (met.map τ) = (visit g f y met).map τ ∧ ∀ z ∈ visit g f y met, D z) :
    ∀ (l met : List Int), (∀ y ∈ l, y = -1 ∨ D y) → (∀ z ∈ met, D z) → visits x f (l.map τ) (met.map τ) = (visits g f l met).map τ ∧ ∀ z ∈ visits g f l met, D z
  | [], met, _, hm => ⟨rfl, hm⟩
  | y :: l, met, hl, hm => by
    obtain ⟨h1, h2⟩ := hv y met (hl y List.mem_cons_self) hm
    have := visits_part_of h f hv l _ (fun z hz => hl z (List.mem_cons_of_mem _ hz)) h2
    refine ⟨?_, this.2⟩
    show visits x f (l.map τ) (visit x f (τ y) (met.map τ)) = _
    rw [h1]
    exact this.1
theorem visit_part (h : Part g x τ D) : ∀ (f : Nat) (y : Int) (met : List Int), (y = -1 ∨ D y) → (∀ z ∈ met, D z) → visit x f (τ y) (met.map τ) = (visit g f y met).map τ ∧ ∀ z ∈ visit g f y met, D z
  | 0, y, met, _, hm => ⟨rfl, hm⟩
  | f + 1, y, met, hy, hm => by
    by_cases old : y < 0 ∨ y ∈ met
    · rw [visit_old g old, visit_old x]
      · exact ⟨rfl, hm⟩
      rcases hy with rfl | hy
      · rw [h.none_]; exact .inl (by decide)
      · have := h.dom y hy
        exact .inr (List.mem_map_of_mem (old.resolve_left (by omega)))
    have hD : D y := by
      rcases hy with rfl | hy
      · exact absurd (.inl (by decide)) old
      · exact hy
    have hr := h.rng y hD
    have hn : y ∉ met := fun hm => old (.inr hm)
    have old' : ¬ (τ y < 0 ∨ τ y ∈ met.map τ) := by
      rintro (k | k)
      · omega
      · exact hn ((h.mem hm hD).1 k)
    have e1 : visit g (f + 1) y met = visits g f (realKids g y) (met ++ [y]) := by rw [visit, if_neg old]
    have e2 : visit x (f + 1) (τ y) (met.map τ) = visits x f (realKids x (τ y)) (met.map τ ++ [τ y]) := by rw [visit, if_neg old']
    rw [e1, e2, h.kids y hD]
    have := visits_part_of h f (visit_part h f) (realKids g y) (met ++ [y]) (h.kidsD y hD) (fun z hz => by
      rcases List.mem_append.1 hz with hz | hz
      · exact hm z hz
      · rw [List.mem_singleton.1 hz]; exact hD)
    rw [List.map_append] at this
    exact this
theorem Part.order (h : Part g x τ D) : order x = (order g).map τ := by
  have := (visits_part_of h (g.nodes.length + x.nodes.length + 1) (visit_part h _) (g.roots.map (G.real g.nodes.length)) [] h.rootsD (by simp)).1
  rw [← h.roots] at this
  rw [visits_le g (f := full g) (by unfold full; omega) _ [] (reals_roots g) (Met.nil _) (by simp)] at this
  have e : visits x (g.nodes.length + x.nodes.length + 1) (x.roots.map (G.real x.nodes.length)) ([].map τ) = visits x (full x) (x.roots.map (G.real x.nodes.length)) [] := visits_le x (f := full x) (by unfold full; omega) _ [] (reals_roots x) (Met.nil _) (by simp)
  rw [e] at this
  exact this
end
theorem idx_neg {l : List Int} {n : Nat} (hm : Met n l) {x : Int} (h : x < 0) : idx l x = -1 := idx_not fun hx => by have := hm.rng x hx; omega
theorem idx_mem {l : List Int} {x : Int} (h : x ∈ l) : 0 ≤ idx l x ∧ idx l x < l.length ∧ l[(idx l x).toNat]? = some x := by
  have := List.idxOf_lt_length_iff.2 h
  unfold idx
  rw [if_pos h]
  refine ⟨by omega, by omega, ?_⟩
  rw [Int.toNat_natCast, List.getElem?_eq_getElem this]
  congr 1
  exact List.getElem_idxOf this
theorem idx_inj {l : List Int} {a b : Int} (ha : a ∈ l) (hb : b ∈ l) (e : idx l a = idx l b) : a = b := by
  have h1 := (idx_mem ha).2.2
  have h2 := (idx_mem hb).2.2
  rw [e, h2] at h1
  exact (Option.some.inj h1).symm
theorem idx_pos {l : List Int} {x : Int} (h : 0 ≤ idx l x) : x ∈ l := by
  by_cases hx : x ∈ l
  · exact hx
  · rw [idx_not hx] at h; omega
theorem norm_at (g : Gr) {k : Int} (hk : k ∈ order g) : ∃ m, g.nodes[k.toNat]? = some m ∧ (norm g).nodes[(idx (order g) k).toNat]? = some { m with kids := m.kids.map (idx (order g)) } := by
  have hr := (order_met g).rng k hk
  have hlt : k.toNat < g.nodes.length := by omega
  refine ⟨_, List.getElem?_eq_getElem hlt, ?_⟩
  unfold norm
  dsimp only
  rw [List.getElem?_map, (idx_mem hk).2.2]
  simp only [Option.map_some, List.getElem?_eq_getElem hlt]
/-- What is numbered in the order of meeting is a part. -/
theorem norm_part (g : Gr) : Part g (norm g) (idx (order g)) (· ∈ order g) := by
  have hm := order_met g
  have hreal : ∀ c : Int, (G.real (norm g).nodes.length (idx (order g) c)) = idx (order g) c := fun c => by
    rw [norm_len]
    by_cases h : c ∈ order g
    · have := idx_mem h
      exact real_in this.1 this.2.1
    · rw [idx_not h]; rfl
  refine ⟨fun c hc => hm.rng c hc, idx_neg hm (by decide), fun c hc => ?_, fun a b ha hb e => idx_inj ha hb e, fun k hk c hc => ?_, fun k hk => ?_, fun c hc => ?_, ?_⟩
  · rw [norm_len]; exact ⟨(idx_mem hc).1, (idx_mem hc).2.1⟩
  · obtain ⟨y, hy, rfl⟩ := List.mem_map.1 hc
    rcases two_real g.nodes.length y with h | h
    · exact .inl h
    · exact .inr (order_kids g hk hy h.1)
  · obtain ⟨m, h1, h2⟩ := norm_at g hk
    unfold realKids kidsOf
    rw [h1, h2]
    simp only [Option.map_some, Option.getD_some, List.map_map]
    exact List.map_congr_left fun c _ => by
      show G.real _ (idx _ c) = idx _ (G.real _ c)
      rw [hreal, idx_real]
  · obtain ⟨y, hy, rfl⟩ := List.mem_map.1 hc
    rcases two_real g.nodes.length y with h | h
    · exact .inl h
    · exact .inr (order_roots g hy h.1)
  · show ((g.roots.map (idx (order g))).map _) = _
    rw [List.map_map, List.map_map]
    exact List.map_congr_left fun c _ => by
      show G.real _ (idx _ c) = idx _ (G.real _ c)
      rw [hreal, idx_real]
/-- Numbered in the order of meeting, the order is that of the numbers. -/
theorem order_norm (g : Gr) : order (norm g) = (List.range (norm g).nodes.length).map Int.ofNat := by
  rw [(norm_part g).order, norm_len]
  have hm := order_met g
  refine List.ext_getElem? fun i => ?_
  rw [List.getElem?_map, List.getElem?_map]
  by_cases hi : i < (order g).length
  · rw [List.getElem?_eq_getElem hi, List.getElem?_range hi]
    simp only [Option.map_some]
    congr 1
    have h1 := List.getElem_mem hi
    unfold idx
    rw [if_pos h1]
    have : (order g).idxOf (order g)[i] = i := by
      have hlt := List.idxOf_lt_length_iff.2 h1
      have e := List.getElem_idxOf hlt
      have hp := List.pairwise_iff_getElem.1 hm.nodup
      rcases Nat.lt_trichotomy ((order g).idxOf (order g)[i]) i with h | h | h
      · exact absurd e (hp _ _ hlt hi h)
      · exact h
      · exact absurd e.symm (hp _ _ hi hlt h)
    rw [this]; rfl
  · rw [List.getElem?_eq_none (by omega), List.getElem?_eq_none (by simp; omega)]; rfl
theorem idx_range (n : Nat) {x : Int} (h0 : 0 ≤ x) (h : x < n) : idx ((List.range n).map Int.ofNat) x = x := by
  have hx : x ∈ (List.range n).map Int.ofNat := List.mem_map.2 ⟨x.toNat, by rw [List.mem_range]; omega, by show (x.toNat : Int) = x; omega⟩
  have := (idx_mem hx).2.2
  have h1 := (idx_mem hx).1
  rw [List.getElem?_map] at this
  cases h2 : (List.range n)[(idx ((List.range n).map Int.ofNat) x).toNat]? with
  | none => rw [h2] at this; simp at this
  | some y =>
    rw [h2] at this
    obtain ⟨hlt, e⟩ := List.getElem?_eq_some_iff.1 h2
    rw [List.getElem_range] at e
    simp only [Option.map_some, Option.some.injEq] at this
    have : (y : Int) = x := this
    omega
end Go.Proofs.Ythdbmbabfngakaa.G
