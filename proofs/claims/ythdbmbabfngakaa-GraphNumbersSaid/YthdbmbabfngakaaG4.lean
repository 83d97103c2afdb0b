/- Graphs as data: nodes' numbers play no part. -/
import Derived.Test.YthdbmbabfngakaaG3
namespace Go.Proofs.Ythdbmbabfngakaa.G
set_option linter.unusedSimpArgs false
set_option linter.unusedVariables false
/-- One graph is another one, whose nodes bear other numbers. -/
structure Turn (g x : Gr) (τ : Int → Int) : Prop where
  len : x.nodes.length = g.nodes.length
  none_ : τ (-1) = -1
  rng : ∀ c : Int, 0 ≤ c → c < g.nodes.length → 0 ≤ τ c ∧ τ c < g.nodes.length
  inj : ∀ a b : Int, 0 ≤ a → a < g.nodes.length → 0 ≤ b → b < g.nodes.length → τ a = τ b → a = b
  node : ∀ (k : Int) (m : Nd), 0 ≤ k → g.nodes[k.toNat]? = some m → x.nodes[(τ k).toNat]? = some { m with kids := m.kids.map fun c => τ (real g.nodes.length c) }
  roots : x.roots = g.roots.map fun c => τ (real g.nodes.length c)
def Two (n : Nat) (y : Int) : Prop := y = -1 ∨ (0 ≤ y ∧ y < n)
theorem two_real (n : Nat) (k : Int) : Two n (real n k) := by
  unfold real Two; split <;> omega
section
variable {g x : Gr} {τ : Int → Int}
theorem Turn.real (h : Turn g x τ) {y : Int} (hy : Two g.nodes.length y) : real x.nodes.length (τ y) = τ y := by
  rw [h.len]
  rcases hy with rfl | ⟨h0, h1⟩
  · rw [h.none_]; rfl
  · have := h.rng y h0 h1
    exact real_in this.1 this.2
theorem Turn.kids (h : Turn g x τ) {k : Int} (h0 : 0 ≤ k) (hk : k < g.nodes.length) : realKids x (τ k) = (realKids g k).map τ := by
  have hlt : k.toNat < g.nodes.length := by omega
  have hm := List.getElem?_eq_getElem hlt
  have hx := h.node k _ h0 hm
  unfold realKids kidsOf
  rw [hx, hm]
  simp only [Option.map_some, Option.getD_some, List.map_map]
  refine List.map_congr_left fun c _ => ?_
  exact h.real (two_real _ c)
theorem Turn.mem (h : Turn g x τ) {met : List Int} (hm : Met g.nodes.length met) {y : Int} (h0 : 0 ≤ y) (hy : y < g.nodes.length) : τ y ∈ met.map τ ↔ y ∈ met := by
  constructor
  · intro hy2
    obtain ⟨z, hz, e⟩ := List.mem_map.1 hy2
    have := hm.rng z hz
    rw [← h.inj z y this.1 this.2 h0 hy e]; exact hz
  · exact List.mem_map_of_mem
theorem visits_turn_of (h : Turn g x τ) (f : Nat) (hv : ∀ (y : Int) (met : List Int), Two g.nodes.length y → Met g.nodes.length met → visit x f (τ y) (met.map τ) = (visit g f y met).map τ) :
    ∀ (l met : List Int), (∀ y ∈ l, Two g.nodes.length y) → Met g.nodes.length met → visits x f (l.map τ) (met.map τ) = (visits g f l met).map τ
  | [], met, _, _ => rfl
  | y :: l, met, hl, hm => by
    have hy := hl y List.mem_cons_self
    have hlt : y < g.nodes.length := by rcases hy with rfl | h <;> omega
    show visits x f (l.map τ) (visit x f (τ y) (met.map τ)) = _
    rw [hv y met hy hm]
    exact visits_turn_of h f hv l _ (fun z hz => hl z (List.mem_cons_of_mem _ hz)) (visit_met g f y met hlt hm).1
theorem visit_turn (h : Turn g x τ) : ∀ (f : Nat) (y : Int) (met : List Int), Two g.nodes.length y → Met g.nodes.length met → visit x f (τ y) (met.map τ) = (visit g f y met).map τ
  | 0, y, met, _, _ => rfl
  | f + 1, y, met, hy, hm => by
    by_cases old : y < 0 ∨ y ∈ met
    · rw [visit_old g old, visit_old x]
      rcases hy with rfl | ⟨h0, h1⟩
      · rw [h.none_]; exact .inl (by decide)
      · exact .inr (List.mem_map_of_mem (old.resolve_left (by omega)))
    have h0 : 0 ≤ y := by omega
    have h1 : y < g.nodes.length := by rcases hy with rfl | h <;> omega
    have hn : y ∉ met := fun hm => old (.inr hm)
    have hr := h.rng y h0 h1
    have old' : ¬ (τ y < 0 ∨ τ y ∈ met.map τ) := by
      rintro (k | k)
      · omega
      · exact hn ((h.mem hm h0 h1).1 k)
    have e1 : visit g (f + 1) y met = visits g f (realKids g y) (met ++ [y]) := by rw [visit, if_neg old]
    have e2 : visit x (f + 1) (τ y) (met.map τ) = visits x f (realKids x (τ y)) (met.map τ ++ [τ y]) := by rw [visit, if_neg old']
    rw [e1, e2, h.kids h0 h1]
    have := visits_turn_of h f (visit_turn h f) (realKids g y) (met ++ [y]) (fun z hz => by
      obtain ⟨c, _, rfl⟩ := List.mem_map.1 hz
      exact two_real _ c) (hm.snoc h0 h1 hn)
    rw [List.map_append] at this
    exact this
theorem Turn.order (h : Turn g x τ) : order x = (order g).map τ := by
  unfold G.order full
  rw [h.len, h.roots, List.map_map]
  have e : (g.roots.map (G.real g.nodes.length ∘ fun c => τ (G.real g.nodes.length c))) = (g.roots.map (G.real g.nodes.length)).map τ := by
    rw [List.map_map]
    refine List.map_congr_left fun c _ => ?_
    have := h.real (two_real g.nodes.length c)
    rw [h.len] at this
    exact this
  rw [e]
  exact visits_turn_of h _ (visit_turn h _) _ [] (fun y hy => by
    obtain ⟨c, _, rfl⟩ := List.mem_map.1 hy
    exact two_real _ c) (Met.nil _)
theorem idx_turn (h : Turn g x τ) {met : List Int} (hm : Met g.nodes.length met) {y : Int} (hy : Two g.nodes.length y) : idx (met.map τ) (τ y) = idx met y := by
  by_cases h1 : y ∈ met
  · have hr := hm.rng y h1
    have h2 := (h.mem hm hr.1 hr.2).2 h1
    unfold idx
    rw [if_pos h1, if_pos h2]
    clear h1 h2
    congr 1
    induction met with
    | nil => rfl
    | cons a l ih =>
      have ha := hm.rng a List.mem_cons_self
      have hm' : Met g.nodes.length l := ⟨(List.nodup_cons.1 hm.nodup).2, fun z hz => hm.rng z (List.mem_cons_of_mem _ hz)⟩
      rw [List.map_cons, List.idxOf_cons, List.idxOf_cons]
      by_cases e : a = y
      · subst e; simp
      · have e' : ¬ τ a = τ y := fun k => e (h.inj a y ha.1 ha.2 hr.1 hr.2 k)
        have ih' := ih hm'
        simp only [beq_eq_false_iff_ne.2 e, beq_eq_false_iff_ne.2 e', cond_false]
        rw [ih']
  · rw [idx_not h1, idx_not]
    intro h2
    obtain ⟨z, hz, e⟩ := List.mem_map.1 h2
    have := hm.rng z hz
    rcases hy with rfl | ⟨h0, hlt⟩
    · rw [h.none_] at e
      have := h.rng z this.1 this.2
      omega
    · rw [h.inj z y this.1 this.2 h0 hlt e] at hz
      exact h1 hz
/-- Numbered in the order of meeting they are the same. -/
theorem Turn.norm (h : Turn g x τ) : norm x = norm g := by
  have hm := order_met g
  have hi : ∀ c : Int, idx (G.order x) (τ (G.real g.nodes.length c)) = idx (G.order g) c := fun c => by
    rw [h.order, idx_turn h hm (two_real _ c), idx_real]
  unfold G.norm
  rw [h.roots, List.map_map]
  congr 1
  · exact List.map_congr_left fun c _ => hi c
  · have e : G.order x = (G.order g).map τ := h.order
    conv => lhs; rw [e, List.map_map]
    refine List.map_congr_left fun k hk => ?_
    have hr := hm.rng k hk
    have hlt : k.toNat < g.nodes.length := by omega
    have h1 := List.getElem?_eq_getElem hlt
    have h2 := h.node k _ hr.1 h1
    simp only [Function.comp, h1, h2, List.map_map]
    congr 1
    exact List.map_congr_left fun c _ => by
      have := hi c
      rw [e] at this
      exact this
theorem Turn.short (h : Turn g x τ) : short x = short g := by unfold G.short; rw [h.norm]
end
end Go.Proofs.Ythdbmbabfngakaa.G
