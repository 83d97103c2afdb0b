/- Graphs as data: numbering in the order of meeting. -/
import Derived.Test.YthdbmbabfngakaaG2
namespace Go.Proofs.Ythdbmbabfngakaa.G
set_option linter.unusedSimpArgs false
set_option linter.unusedVariables false
theorem visits_closed_of (g : Gr) (f : Nat)
    (hv : ∀ (x : Int) (met : List Int), x < g.nodes.length → Met g.nodes.length met → g.nodes.length < f + met.length → (0 ≤ x → x ∈ visit g f x met) ∧ ∀ k ∈ visit g f x met, k ∉ met → ∀ c ∈ realKids g k, c < 0 ∨ c ∈ visit g f x met) :
    ∀ (l met : List Int), Reals g.nodes.length l → Met g.nodes.length met → g.nodes.length < f + met.length → (∀ y ∈ l, 0 ≤ y → y ∈ visits g f l met) ∧ ∀ k ∈ visits g f l met, k ∉ met → ∀ c ∈ realKids g k, c < 0 ∨ c ∈ visits g f l met
  | [], met, _, _, _ => ⟨by simp, fun k hk hn => absurd hk hn⟩
  | y :: l, met, hl, hm, hf => by
    have hy := hl y List.mem_cons_self
    have hl' : Reals g.nodes.length l := fun z hz => hl z (List.mem_cons_of_mem _ hz)
    obtain ⟨h1, l1, e1⟩ := visit_met g f y met hy hm
    obtain ⟨a1, a2⟩ := hv y met hy hm hf
    obtain ⟨_, l2, e2⟩ := visits_met g f l (visit g f y met) hl' h1
    obtain ⟨b1, b2⟩ := visits_closed_of g f hv l (visit g f y met) hl' h1 (by rw [e1]; simp; omega)
    have e : visits g f (y :: l) met = visits g f l (visit g f y met) := rfl
    have sub : ∀ z, z ∈ visit g f y met → z ∈ visits g f (y :: l) met := fun z hz => by rw [e, e2]; exact List.mem_append_left _ hz
    refine ⟨fun z hz h0 => ?_, fun k hk hn c hc => ?_⟩
    · rcases List.mem_cons.1 hz with rfl | hz
      · exact sub _ (a1 h0)
      · exact b1 z hz h0
    · by_cases hk1 : k ∈ visit g f y met
      · exact (a2 k hk1 hn c hc).imp id (sub c)
      · exact b2 k hk hk1 c hc
theorem visit_closed (g : Gr) : ∀ (f : Nat) (x : Int) (met : List Int), x < g.nodes.length → Met g.nodes.length met → g.nodes.length < f + met.length → (0 ≤ x → x ∈ visit g f x met) ∧ ∀ k ∈ visit g f x met, k ∉ met → ∀ c ∈ realKids g k, c < 0 ∨ c ∈ visit g f x met
  | 0, x, met, _, h, hf => absurd h.len (by omega)
  | f + 1, x, met, hx, h, hf => by
    by_cases old : x < 0 ∨ x ∈ met
    · rw [visit_old g old]
      exact ⟨fun h0 => old.resolve_left (by omega), fun k hk hn => absurd hk hn⟩
    have h0 : 0 ≤ x := by omega
    have hn : x ∉ met := fun hm => old (.inr hm)
    have hm' := h.snoc h0 hx hn
    have e : visit g (f + 1) x met = visits g f (realKids g x) (met ++ [x]) := by rw [visit, if_neg old]
    obtain ⟨b1, b2⟩ := visits_closed_of g f (visit_closed g f) (realKids g x) (met ++ [x]) (reals_kids g x) hm' (by simp; omega)
    obtain ⟨_, l2, e2⟩ := visits_met g f (realKids g x) (met ++ [x]) (reals_kids g x) hm'
    rw [e]
    refine ⟨fun _ => by rw [e2]; simp, fun k hk hnk c hc => ?_⟩
    by_cases hkx : k = x
    · subst hkx
      by_cases hc0 : c < 0
      · exact .inl hc0
      · exact .inr (b1 c hc (by omega))
    · exact b2 k hk (fun hm => (List.mem_append.1 hm).elim hnk fun h => hkx (List.mem_singleton.1 h)) c hc
theorem reals_roots (g : Gr) : Reals g.nodes.length (g.roots.map (real g.nodes.length)) := fun x hx => by
  obtain ⟨y, _, rfl⟩ := List.mem_map.1 hx
  unfold real; split <;> omega
/-- All that is reached is met. -/
theorem order_roots (g : Gr) {k : Int} (hk : k ∈ g.roots) (h0 : 0 ≤ real g.nodes.length k) : real g.nodes.length k ∈ order g :=
  (visits_closed_of g (full g) (visit_closed g (full g)) _ [] (reals_roots g) (Met.nil _) (by simp)).1 _ (List.mem_map_of_mem hk) h0
theorem order_kids (g : Gr) {m c : Int} (hm : m ∈ order g) (hc : c ∈ kidsOf g m) (h0 : 0 ≤ real g.nodes.length c) : real g.nodes.length c ∈ order g :=
  ((visits_closed_of g (full g) (visit_closed g (full g)) _ [] (reals_roots g) (Met.nil _) (by simp)).2 m hm (by simp) _ (List.mem_map_of_mem hc)).resolve_left (by omega)
/-- A number's place in a list, or -1. -/
def idx (l : List Int) (x : Int) : Int := if x ∈ l then (l.idxOf x : Int) else -1
theorem idx_lt (l : List Int) (x : Int) : idx l x < l.length := by
  unfold idx
  split
  · rename_i h
    have := List.idxOf_lt_length_iff.2 h
    omega
  · omega
theorem idx_not {l : List Int} {x : Int} (h : x ∉ l) : idx l x = -1 := if_neg h
theorem idx_real (g : Gr) (k : Int) : idx (order g) (real g.nodes.length k) = idx (order g) k := by
  unfold real
  split
  · rename_i c
    rw [idx_not, idx_not]
    · intro h
      have := (order_met g).rng k h
      omega
    · intro h
      have := (order_met g).rng (-1) h
      omega
  · rfl
/-- Numbered in the order of meeting. -/
def norm (g : Gr) : Gr := ⟨g.roots.map (idx (order g)), (order g).map fun k => match g.nodes[k.toNat]? with
  | some m => { m with kids := m.kids.map (idx (order g)) }
  | none => ⟨0, 0, [], []⟩⟩
theorem norm_len (g : Gr) : (norm g).nodes.length = (order g).length := by simp [norm]
theorem norm_small {g : Gr} (hn : ∀ m ∈ g.nodes, ∀ i ∈ m.nons, 0 ≤ i) : Small (norm g) := by
  have key : ∀ m ∈ (norm g).nodes, (∀ x ∈ m.kids, x < (order g).length) ∧ ∀ i ∈ m.nons, 0 ≤ i := fun m hm => by
    obtain ⟨k, hk, rfl⟩ := List.mem_map.1 hm
    split
    · rename_i m' h
      refine ⟨fun x hx => ?_, hn m' (List.mem_of_getElem? h)⟩
      obtain ⟨y, _, rfl⟩ := List.mem_map.1 hx
      exact idx_lt _ _
    · exact ⟨by simp, by simp⟩
  refine ⟨fun x hx => ?_, fun m hm => ?_, fun m hm => (key m hm).2⟩
  · rw [norm_len]
    obtain ⟨y, _, rfl⟩ := List.mem_map.1 hx
    exact idx_lt _ _
  · rw [norm_len]; exact (key m hm).1
/-- Without what is on the way. -/
def short (g : Gr) : Gr := norm (rounds ((norm g).nodes.length + 2) (norm g))
end Go.Proofs.Ythdbmbabfngakaa.G
