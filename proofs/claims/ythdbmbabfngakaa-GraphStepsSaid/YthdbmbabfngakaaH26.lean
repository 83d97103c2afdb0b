/- Graphs: the law that steps on the way leave what is short as it is. -/
import Derived.Test.YthdbmbabfngakaaH25
namespace Go.Proofs.Ythdbmbabfngakaa.G
open Go Go.Eng Go.Proofs Go.Proofs.Ythdbmbabfngakaa.T Go.Proofs.Ythdbmbabfngakaa.K
set_option linter.unusedSimpArgs false
set_option linter.unusedVariables false
set_option maxRecDepth 100000
set_option maxHeartbeats 4000000
theorem rawL_lt {g : Gr} (m : Nd) : rawL g.nodes m < g.nodes.length := by
  unfold rawL
  split
  · omega
  split
  · split <;> omega
  split
  · omega
  split
  · split
    · omega
    · split <;> omega
  · omega
/-- A list of numbers of a graph: the roots, or a node's Kids. -/
def listP (g : Gr) : Option Nat → List Int
  | none => g.roots
  | some k => ((g.nodes[k]?).map Nd.kids).getD []
def setP (g : Gr) (p : Option Nat) (l : List Int) : Gr :=
  match p with
  | none => { g with roots := l }
  | some k => { g with nodes := g.nodes.modify k fun m => { m with kids := l } }
theorem setP_len (g : Gr) (p : Option Nat) (l : List Int) : (setP g p l).nodes.length = g.nodes.length := by cases p <;> simp [setP]
theorem setP_nons {g : Gr} (hn : ∀ m ∈ g.nodes, ∀ i ∈ m.nons, 0 ≤ i) (p : Option Nat) (l : List Int) : ∀ m ∈ (setP g p l).nodes, ∀ i ∈ m.nons, 0 ≤ i := by
  cases p with
  | none => exact hn
  | some k =>
    intro m hm i hi
    simp only [setP] at hm
    obtain ⟨j, hj, e⟩ := List.getElem_of_mem hm
    rw [List.getElem_modify] at e
    simp only [List.length_modify] at hj
    split at e
    · subst e; exact hn _ (List.getElem_mem hj) i hi
    · subst e; exact hn _ (List.getElem_mem hj) i hi
theorem set_fwd {g : Gr} {n : Nat} {l : List Int} {j : Nat} {to : Int} (hj : j < l.length) (h : Fwd g (real n l[j]) (real n to)) : ∀ (i : Nat) (t t' : Int), (l.map (real n))[i]? = some t → ((l.set j to).map (real n))[i]? = some t' → Fwd g t t' := by
  intro i t t' h1 h2
  rw [List.getElem?_map, List.getElem?_set] at h2
  by_cases e : j = i
  · subst e
    rw [List.getElem?_map, List.getElem?_eq_getElem hj] at h1
    rw [if_pos rfl, if_pos hj] at h2
    simp only [Option.map_some, Option.some.injEq] at h1 h2
    subst h1 h2
    exact h
  · rw [if_neg e, ← List.getElem?_map, h1] at h2
    cases h2
    exact fwd_refl g t
theorem relP {g : Gr} {p : Option Nat} {l : List Int} (hlp : listP g p = l) {j : Nat} {to : Int} (hj : j < l.length) (h : Fwd (cl g) (real g.nodes.length l[j]) (real g.nodes.length to)) : RelR (cl g) (cl (setP g p (l.set j to))) := by
  cases p with
  | none =>
    subst hlp
    refine ⟨⟨rfl, fun k m hm => ⟨m, hm, rfl, rfl, rfl, rfl, fun i t t' h1 h2 => by rw [h1] at h2; cases h2; exact fwd_refl _ t⟩⟩, by simp [cl, mapN, setP, listP], ?_⟩
    exact set_fwd (g := cl g) (n := g.nodes.length) (l := g.roots) hj h
  | some k =>
    have hl : (setP g (some k) (l.set j to)).nodes.length = g.nodes.length := setP_len _ _ _
    refine ⟨⟨by simp [cl, mapN, setP], fun q m hm => ?_⟩, by simp [cl, mapN, setP], fun i t t' h1 h2 => ?_⟩
    · have hq := nd_pos hm
      rw [cl_len] at hq
      obtain ⟨m0, hm0⟩ := nd_some g hq.1 hq.2.1
      have e := nd_map (f := real g.nodes.length) hm0
      have e' : nd (cl g) q = some { m0 with kids := m0.kids.map (real g.nodes.length) } := e
      rw [hm] at e'
      cases e'
      have hp := nd_pos hm0
      by_cases eq : k = q.toNat
      · subst eq
        obtain rfl : l = m0.kids := by rw [← hlp]; simp [listP, hp.2.2.2]
        have hset : (setP g (some q.toNat) (m0.kids.set j to)).nodes[q.toNat]? = some { m0 with kids := m0.kids.set j to } := by
          simp only [setP, List.getElem?_modify, hp.2.2.2, Option.map_some, if_true]
          rfl
        have e3 := nd_map (f := real g.nodes.length) (nd_nodes (g := setP g (some q.toNat) (m0.kids.set j to)) hp.1 hset)
        refine ⟨{ m0 with kids := (m0.kids.set j to).map (real g.nodes.length) }, ?_, rfl, rfl, rfl, by simp, ?_⟩
        · unfold cl
          rw [setP_len]
          exact e3
        · simp only at hj h ⊢
          exact set_fwd (g := cl g) hj h
      · have hset : (setP g (some k) (l.set j to)).nodes[q.toNat]? = some m0 := by
          simp only [setP, List.getElem?_modify, hp.2.2.2, Option.map_some, if_neg eq]
          rfl
        have e3 := nd_map (f := real g.nodes.length) (nd_nodes (g := setP g (some k) (l.set j to)) hp.1 hset)
        refine ⟨_, ?_, rfl, rfl, rfl, rfl, fun i t t' h1 h2 => by rw [h1] at h2; cases h2; exact fwd_refl _ t⟩
        unfold cl
        rw [setP_len]
        exact e3
    · simp only [cl, mapN, setP, List.length_modify] at h1 h2
      rw [h1] at h2
      cases h2
      exact fwd_refl _ t
/-- A step where one is on the way. -/
theorem short_step {g : Gr} (hn : ∀ m ∈ g.nodes, ∀ i ∈ m.nons, 0 ≤ i) {p : Option Nat} {l : List Int} (hlp : listP g p = l) {j : Nat} (hj : j < l.length) {m : Nd} (hm : nd g l[j] = some m) (h0 : 0 ≤ rawL g.nodes m) : short (setP g p (l.set j (rawL g.nodes m))) = short g := by
  have hp := nd_pos hm
  have hr : real g.nodes.length l[j] = l[j] := real_in hp.1 hp.2.1
  have hr2 : real g.nodes.length (rawL g.nodes m) = rawL g.nodes m := real_in h0 (rawL_lt m)
  have hx := rawL_cl hm
  rw [hr2] at hx
  refine short_rel hn (setP_nons hn _ _) (relP hlp hj ?_)
  rw [hr, hr2]
  have hnx : nextF (cl g) l[j] = rawL g.nodes m := by rw [hx]; exact nx_pos hp.1 (by rw [cl_len]; exact hp.2.1) (by rw [← hx]; omega)
  exact .inl (.step hp.1 (by rw [hnx]; exact h0) (by rw [hnx]; exact .refl _))
end Go.Proofs.Ythdbmbabfngakaa.G
