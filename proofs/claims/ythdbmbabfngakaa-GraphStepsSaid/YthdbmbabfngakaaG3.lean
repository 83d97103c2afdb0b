/- Graphs as data: numbering in the order of meeting. -/
import Derived.Test.YthdbmbabfngakaaG2
namespace Go.Proofs.Ythdbmbabfngakaa.G
set_option linter.unusedSimpArgs false
set_option linter.unusedVariables false
theorem visits_closed_of (g : Gr) (f : Nat)
    (hv : ∀ (x : Int) (met : List Int), x < g.nodes.length → Met g.nodes.length met → g.nodes.length < f + met.length → (0 ≤ x → x ∈ visit g f x met) ∧ ∀ k ∈ visit g f x met, k ∉ met → ∀ c ∈ realKids g k, c < 0 ∨ c ∈ visit g f x met) :
    ∀ (l met : List Int), Reals g.nodes.length l → Met g.nodes.length met → g.nodes.length < f + met.length → (∀ y ∈ l, 0 ≤ y → y ∈ visits g f l met) ∧ ∀ k ∈ visits g f l met, k ∉ met → ∀ c ∈ realKids g k, c < 0 ∨ c ∈ visits g f l met
  | [], met, _, _, _ => ⟨by simp, fun k hk hn => absurd hk hn⟩
  | y :: l, met, hl, hm, hf => by
    have hy := hl y List.mem_cons_self
    have hl' : Reals g.nodes.length l := fun z hz => hl z (List.mem_cons_of_mem _ hz)
    obtain ⟨h1, l1, e1⟩ := visit_met g f y met hy hm
    obtain ⟨a1, a2⟩ := hv y met hy hm hf
    obtain ⟨_, l2, e2⟩ := visits_met g f l (visit g f y met) hl' h1
    obtain ⟨b1, b2⟩ := visits_closed_of g f hv l (visit g f y met) hl' h1 (by rw [e1]; simp; omega)
    have e : visits g f (y :: l) met = visits g f l (visit g f y met) := rfl
    have sub : ∀ z, z ∈ visit g f y met → z ∈ visits g f (y :: l) met := fun z hz => by rw [e, e2]; exact List.mem_append_left _ hz
    refine ⟨fun z hz h0 => ?_, fun k hk hn c hc => ?_⟩
    · rcases List.mem_cons.1 hz with rfl | hz
      · exact sub _ (a1 h0)
      · exact b1 z hz h0
    · by_cases hk1 : k ∈ visit g f y met
      · exact (a2 k hk1 hn c hc).imp id (sub c)
      · exact b2 k hk hk1 c hc
theorem visit_closed (g : Gr) : ∀ (f : Nat) (x : Int) (met : List Int), x < g.nodes.length → Met g.nodes.length met → g.nodes.length < f + met.length → (0 ≤ x → x ∈ visit g f x met) ∧ ∀ k ∈ visit g f x met, k ∉ met → ∀ c ∈ realKids g k, c < 0 ∨ c ∈ visit g f x met
  | 0, x, met, _, h, hf => absurd h.len (by omega)
  | f + 1, x, met, hx, h, hf => by
    by_cases old : x < 0 ∨ x ∈ met
    · rw [visit_old g old]
      exact ⟨fun h0 => old.resolve_left (by omega), fun k hk hn => absurd hk hn⟩
    have h0 : 0 ≤ x := by omega
    have hn : x ∉ met := fun hm => old (.inr hm)
    have hm' := h.snoc h0 hx hn
    have e : visit g (f + 1) x met = visits g f (realKids g x) (met ++ [x]) := by rw [visit, if_neg old]
    obtain ⟨b1, b2⟩ := visits_closed_of g f (visit_closed g f) (realKids g x) (met ++ [x]) (reals_kids g x) hm' (by simp; omega)
    obtain ⟨_, l2, e2⟩ := visits_met g f (realKids g x) (met ++ [x]) (reals_kids g x) hm'
    rw [e]
    refine ⟨fun _ => by rw [e2]; simp, fun k hk hnk c hc => ?_⟩
    by_cases hkx : k = x
    · subst hkx
      by_cases hc0 : c < 0
      · exact .inl hc0
      · exact .inr (b1 c hc (by omega))
    · exact b2 k hk (fun hm => (List.mem_append.1 hm).elim hnk fun h => hkx (List.mem_singleton.1 h)) c hc
theorem reals_roots (g : Gr) : Reals g.nodes.length (g.roots.map (real g.nodes.length)) := fun x hx => by
  obtain ⟨y, _, rfl⟩ := List.mem_map.1 hx
  unfold real; split <;> omega
/-- All that is reached is met. -/
theorem order_roots (g : Gr) {k : Int} (hk : k ∈ g.roots) (h0 : 0 ≤ real g.nodes.length k) : real g.nodes.length k ∈ order g :=
  (visits_closed_of g (full g) (visit_closed g (full g)) _ [] (reals_roots g) (Met.nil _) (by simp)).1 _ (List.mem_map_of_mem hk) h0
theorem order_kids (g : Gr) {m c : Int} (hm : m ∈ order g) (hc : c ∈ kidsOf g m) (h0 : 0 ≤ real g.nodes.length c) : real g.nodes.length c ∈ order g :=
  ((visits_closed_of g (full g) (visit_closed g (full g)) _ [] (reals_roots g) (Met.nil _) (by simp)).2 m hm (by simp) _ (List.mem_map_of_mem hc)).resolve_left (by omega)
/-- A number's place in a list, or -1. -/
def idx (l : List Int) (x : Int) : Int := if x ∈ l then (l.idxOf x : Int) else -1
theorem idx_lt (l : List Int) (x : Int) : idx l x < l.length := by
  unfold idx
  split
  · rename_i h
    have := List.idxOf_lt_length_iff.2 h
    omega
  · omega
theorem idx_not {l : List Int} {x : Int} (h : x ∉ l) : idx l x = -1 := if_neg h
theorem idx_real (g : Gr) (k : Int) : idx (order g) (real g.nodes.length k) = idx (order g) k := by
  unfold real
  split
  · rename_i c
    rw [idx_not, idx_not]
    · intro h
      have := (order_met g).rng k h
      omega
    · intro h
      have := (order_met g).rng (-1) h
      omega
  · rfl
/-- Numbered in the order of meeting. -/
def norm (g : Gr) : Gr := ⟨g.roots.map (idx (order g)), (order g).map fun k => match g.nodes[k.toNat]? with
  | some m => { m with kids := m.kids.map (idx (order g)) }
  | none => ⟨0, 0, [], []⟩⟩
theorem norm_len (g : Gr) : (norm g).nodes.length = (order g).length := by simp [norm]
theorem norm_small {g : Gr} (hn : ∀ m ∈ g.nodes, ∀ i ∈ m.nons, 0 ≤ i) : Small (norm g) := by
  have key : ∀ m ∈ (norm g).nodes, (∀ x ∈ m.kids, x < (order g).length) ∧ ∀ i ∈ m.nons, 0 ≤ i := fun m hm => by
    obtain ⟨k, hk, rfl⟩ := List.mem_map.1 hm
    split
    · rename_i m' h
      refine ⟨fun x hx => ?_, hn m' (List.mem_of_getElem? h)⟩
      obtain ⟨y, _, rfl⟩ := List.mem_map.1 hx
      exact idx_lt _ _
    · exact ⟨by simp, by simp⟩
  refine ⟨fun x hx => ?_, fun m hm => ?_, fun m hm => (key m hm).2⟩
  · rw [norm_len]
    obtain ⟨y, _, rfl⟩ := List.mem_map.1 hx
    exact idx_lt _ _
  · rw [norm_len]; exact (key m hm).1
/-- Without what is on the way. -/
def short (g : Gr) : Gr := norm (rounds ((norm g).nodes.length + 2) (norm g))
end Go.Proofs.Ythdbmbabfngakaa.G
/- Graphs as data: nodes' numbers play no part. -/
namespace Go.Proofs.Ythdbmbabfngakaa.G
set_option linter.unusedSimpArgs false
set_option linter.unusedVariables false
/-- One graph is another one, whose nodes bear other numbers. -/
structure Turn (g x : Gr) (τ : Int → Int) : Prop where
  len : x.nodes.length = g.nodes.length
  none_ : τ (-1) = -1
  rng : ∀ c : Int, 0 ≤ c → c < g.nodes.length → 0 ≤ τ c ∧ τ c < g.nodes.length
  inj : ∀ a b : Int, 0 ≤ a → a < g.nodes.length → 0 ≤ b → b < g.nodes.length → τ a = τ b → a = b
  node : ∀ (k : Int) (m : Nd), 0 ≤ k → g.nodes[k.toNat]? = some m → x.nodes[(τ k).toNat]? = some { m with kids := m.kids.map fun c => τ (real g.nodes.length c) }
  roots : x.roots = g.roots.map fun c => τ (real g.nodes.length c)
def Two (n : Nat) (y : Int) : Prop := y = -1 ∨ (0 ≤ y ∧ y < n)
theorem two_real (n : Nat) (k : Int) : Two n (real n k) := by
  unfold real Two; split <;> omega
section
variable {g x : Gr} {τ : Int → Int}
theorem Turn.real (h : Turn g x τ) {y : Int} (hy : Two g.nodes.length y) : real x.nodes.length (τ y) = τ y := by
  rw [h.len]
  rcases hy with rfl | ⟨h0, h1⟩
  · rw [h.none_]; rfl
  · have := h.rng y h0 h1
    exact real_in this.1 this.2
theorem Turn.kids (h : Turn g x τ) {k : Int} (h0 : 0 ≤ k) (hk : k < g.nodes.length) : realKids x (τ k) = (realKids g k).map τ := by
  have hlt : k.toNat < g.nodes.length := by omega
  have hm := List.getElem?_eq_getElem hlt
  have hx := h.node k _ h0 hm
  unfold realKids kidsOf
  rw [hx, hm]
  simp only [Option.map_some, Option.getD_some, List.map_map]
  refine List.map_congr_left fun c _ => ?_
  exact h.real (two_real _ c)
theorem Turn.mem (h : Turn g x τ) {met : List Int} (hm : Met g.nodes.length met) {y : Int} (h0 : 0 ≤ y) (hy : y < g.nodes.length) : τ y ∈ met.map τ ↔ y ∈ met := by
  constructor
  · intro hy2
    obtain ⟨z, hz, e⟩ := List.mem_map.1 hy2
    have := hm.rng z hz
    rw [← h.inj z y this.1 this.2 h0 hy e]; exact hz
  · exact List.mem_map_of_mem
theorem visits_turn_of (h : Turn g x τ) (f : Nat) (hv : ∀ (y : Int) (met : List Int), Two g.nodes.length y → Met g.nodes.length met → visit x f (τ y) (met.map τ) = (visit g f y met).map τ) :
    ∀ (l met : List Int), (∀ y ∈ l, Two g.nodes.length y) → Met g.nodes.length met → visits x f (l.map τ) (met.map τ) = (visits g f l met).map τ
  | [], met, _, _ => rfl
  | y :: l, met, hl, hm => by
    have hy := hl y List.mem_cons_self
    have hlt : y < g.nodes.length := by rcases hy with rfl | h <;> omega
    show visits x f (l.map τ) (visit x f (τ y) (met.map τ)) = _
    rw [hv y met hy hm]
    exact visits_turn_of h f hv l _ (fun z hz => hl z (List.mem_cons_of_mem _ hz)) (visit_met g f y met hlt hm).1
theorem visit_turn (h : Turn g x τ) : ∀ (f : Nat) (y : Int) (met : List Int), Two g.nodes.length y → Met g.nodes.length met → visit x f (τ y) (met.map τ) = (visit g f y met).map τ
  | 0, y, met, _, _ => rfl
  | f + 1, y, met, hy, hm => by
    by_cases old : y < 0 ∨ y ∈ met
    · rw [visit_old g old, visit_old x]
      rcases hy with rfl | ⟨h0, h1⟩
      · rw [h.none_]; exact .inl (by decide)
      · exact .inr (List.mem_map_of_mem (old.resolve_left (by omega)))
    have h0 : 0 ≤ y := by omega
    have h1 : y < g.nodes.length := by rcases hy with rfl | h <;> omega
    have hn : y ∉ met := fun hm => old (.inr hm)
    have hr := h.rng y h0 h1
    have old' : ¬ (τ y < 0 ∨ τ y ∈ met.map τ) := by
      rintro (k | k)
      · omega
      · exact hn ((h.mem hm h0 h1).1 k)
    have e1 : visit g (f + 1) y met = visits g f (realKids g y) (met ++ [y]) := by rw [visit, if_neg old]
    have e2 : visit x (f + 1) (τ y) (met.map τ) = visits x f (realKids x (τ y)) (met.map τ ++ [τ y]) := by rw [visit, if_neg old']
    rw [e1, e2, h.kids h0 h1]
    have := visits_turn_of h f (visit_turn h f) (realKids g y) (met ++ [y]) (fun z hz => by
      obtain ⟨c, _, rfl⟩ := List.mem_map.1 hz
      exact two_real _ c) (hm.snoc h0 h1 hn)
    rw [List.map_append] at this
    exact this
theorem Turn.order (h : Turn g x τ) : order x = (order g).map τ := by
  unfold G.order full
  rw [h.len, h.roots, List.map_map]
  have e : (g.roots.map (G.real g.nodes.length ∘ fun c => τ (G.real g.nodes.length c))) = (g.roots.map (G.real g.nodes.length)).map τ := by
    rw [List.map_map]
    refine List.map_congr_left fun c _ => ?_
    have := h.real (two_real g.nodes.length c)
    rw [h.len] at this
    exact this
  rw [e]
  exact visits_turn_of h _ (visit_turn h _) _ [] (fun y hy => by
    obtain ⟨c, _, rfl⟩ := List.mem_map.1 hy
    exact two_real _ c) (Met.nil _)
theorem idx_turn (h : Turn g x τ) {met : List Int} (hm : Met g.nodes.length met) {y : Int} (hy : Two g.nodes.length y) : idx (met.map τ) (τ y) = idx met y := by
  by_cases h1 : y ∈ met
  · have hr := hm.rng y h1
    have h2 := (h.mem hm hr.1 hr.2).2 h1
    unfold idx
    rw [if_pos h1, if_pos h2]
    clear h1 h2
    congr 1
    induction met with
    | nil => rfl
    | cons a l ih =>
      have ha := hm.rng a List.mem_cons_self
      have hm' : Met g.nodes.length l := ⟨(List.nodup_cons.1 hm.nodup).2, fun z hz => hm.rng z (List.mem_cons_of_mem _ hz)⟩
      rw [List.map_cons, List.idxOf_cons, List.idxOf_cons]
      by_cases e : a = y
      · subst e; simp
      · have e' : ¬ τ a = τ y := fun k => e (h.inj a y ha.1 ha.2 hr.1 hr.2 k)
        have ih' := ih hm'
        simp only [beq_eq_false_iff_ne.2 e, beq_eq_false_iff_ne.2 e', cond_false]
        rw [ih']
  · rw [idx_not h1, idx_not]
    intro h2
    obtain ⟨z, hz, e⟩ := List.mem_map.1 h2
    have := hm.rng z hz
    rcases hy with rfl | ⟨h0, hlt⟩
    · rw [h.none_] at e
      have := h.rng z this.1 this.2
      omega
    · rw [h.inj z y this.1 this.2 h0 hlt e] at hz
      exact h1 hz
/-- Numbered in the order of meeting they are the same. -/
theorem Turn.norm (h : Turn g x τ) : norm x = norm g := by
  have hm := order_met g
  have hi : ∀ c : Int, idx (G.order x) (τ (G.real g.nodes.length c)) = idx (G.order g) c := fun c => by
    rw [h.order, idx_turn h hm (two_real _ c), idx_real]
  unfold G.norm
  rw [h.roots, List.map_map]
  congr 1
  · exact List.map_congr_left fun c _ => hi c
  · have e : G.order x = (G.order g).map τ := h.order
    conv => lhs; rw [e, List.map_map]
    refine List.map_congr_left fun k hk => ?_
    have hr := hm.rng k hk
    have hlt : k.toNat < g.nodes.length := by omega
    have h1 := List.getElem?_eq_getElem hlt
    have h2 := h.node k _ hr.1 h1
    simp only [Function.comp, h1, h2, List.map_map]
    congr 1
    exact List.map_congr_left fun c _ => by
      have := hi c
      rw [e] at this
      exact this
theorem Turn.short (h : Turn g x τ) : short x = short g := by unfold G.short; rw [h.norm]
end
end Go.Proofs.Ythdbmbabfngakaa.G
