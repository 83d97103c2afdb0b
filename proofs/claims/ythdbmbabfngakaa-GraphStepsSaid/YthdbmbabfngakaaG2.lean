/- Graphs as data: where nodes lead, the rounds of leaving out, and why they end. -/
import Derived.Test.YthdbmbabfngakaaG0
namespace Go.Proofs.Ythdbmbabfngakaa.G
set_option linter.unusedSimpArgs false
set_option linter.unusedVariables false
abbrev kCon : Int := 1
abbrev kInd : Int := 8
abbrev kSel : Int := 7
/-- What a node with such Kids leads to, where no number lies beyond the nodes. -/
def leadsN (nodes : List Nd) (n : Nd) : Int :=
  match n.kids with
  | [] => -1
  | to :: _ => if n.kind = kInd then to else if n.kind ≠ kSel ∨ to < 0 then -1 else
    match n.nons, nodes[to.toNat]? with
    | i :: _, some c => if c.kind ≠ kCon ∨ c.info ≠ n.info ∨ (c.kids.length : Int) ≤ i then -1 else (c.kids[i.toNat]?).getD (-1)
    | _, _ => -1
def nx (g : Gr) (k : Int) : Int := if k < 0 then -1 else ((g.nodes[k.toNat]?).map (leadsN g.nodes)).getD (-1)
/-- No number lies beyond the nodes; numbers of Nons are natural. -/
structure Small (g : Gr) : Prop where
  roots : ∀ x ∈ g.roots, x < g.nodes.length
  kids : ∀ m ∈ g.nodes, ∀ x ∈ m.kids, x < g.nodes.length
  nons : ∀ m ∈ g.nodes, ∀ i ∈ m.nons, 0 ≤ i
theorem leadsN_lt {g : Gr} (hg : Small g) {m : Nd} (hm : m ∈ g.nodes) : leadsN g.nodes m < g.nodes.length := by
  unfold leadsN
  split
  · omega
  · rename_i to l e
    have hto := hg.kids m hm to (by rw [e]; exact List.mem_cons_self)
    split
    · exact hto
    split
    · omega
    split
    · rename_i i l' c h1 h2
      split
      · omega
      · have hc : c ∈ g.nodes := List.mem_of_getElem? h2
        cases h3 : c.kids[i.toNat]? with
        | none => simp; omega
        | some y => exact hg.kids c hc y (List.mem_of_getElem? h3)
    · omega
theorem nx_lt {g : Gr} (hg : Small g) (k : Int) : nx g k < g.nodes.length := by
  unfold nx
  split
  · omega
  · cases h : g.nodes[k.toNat]? with
    | none => simp; omega
    | some m => exact leadsN_lt hg (List.mem_of_getElem? h)
/-- Where a number is put. -/
def put (g : Gr) (k : Int) : Int := endN (nx g) g.nodes.length k
theorem put_neg (g : Gr) {k : Int} (h : k < 0) : put g k = k := endN_neg h
/-- A round. -/
def round (g : Gr) : Gr := ⟨g.roots.map (put g), g.nodes.map fun m => { m with kids := m.kids.map (put g) }⟩
/-- A number whose node leads nowhere. -/
def Stays (g : Gr) (k : Int) : Prop := k < 0 ∨ (nx g k < 0 ∧ nx g k ≠ -2)
theorem put_stays {g : Gr} (hg : Small g) {k : Int} (hk : k < g.nodes.length) : Stays g (put g k) := by
  by_cases h0 : k < 0
  · rw [put_neg g h0]; exact .inl h0
  · rcases endN_cases (nx := nx g) (fun k _ _ => nx_lt hg k) (by omega) hk with ⟨d, hd⟩ | ⟨_, h2⟩
    · rcases hd.end_ with e | ⟨_, h1, h2⟩
      · unfold put; rw [e]; exact .inl (by omega)
      · exact .inr ⟨h1, h2⟩
    · unfold put; rw [h2]; exact .inl (by omega)
theorem put_of_stays {g : Gr} {k : Int} (h : Stays g k) : put g k = k := by
  rcases h with h | ⟨h1, h2⟩
  · exact put_neg g h
  · by_cases h0 : k < 0
    · exact put_neg g h0
    · exact endN_stop (by omega) h1 h2
theorem put_lt {g : Gr} (hg : Small g) {k : Int} (hk : k < g.nodes.length) : put g k < g.nodes.length := by
  by_cases h0 : k < 0
  · rw [put_neg g h0]; exact hk
  · have key : ∀ {d : Nat} {k t : Int}, ToD (nx g) d k t → k < g.nodes.length → t < g.nodes.length := by
      intro d
      induction d with
      | zero => intro k t h hk; cases h <;> omega
      | succ d ih =>
        intro k t h hk
        cases h with
        | step h1 h2 h3 => exact ih h3 (nx_lt hg _)
    rcases endN_cases (nx := nx g) (fun k _ _ => nx_lt hg k) (by omega) hk with ⟨d, hd⟩ | ⟨_, h2⟩
    · exact key hd hk
    · unfold put; rw [h2]; omega
theorem round_len (g : Gr) : (round g).nodes.length = g.nodes.length := by simp [round]
theorem round_small {g : Gr} (hg : Small g) : Small (round g) := by
  refine ⟨fun x hx => ?_, fun m hm x hx => ?_, fun m hm i hi => ?_⟩
  · rw [round_len]
    obtain ⟨y, hy, rfl⟩ := List.mem_map.1 hx
    exact put_lt hg (hg.roots y hy)
  · rw [round_len]
    obtain ⟨m', hm', rfl⟩ := List.mem_map.1 hm
    obtain ⟨y, hy, rfl⟩ := List.mem_map.1 hx
    exact put_lt hg (hg.kids m' hm' y hy)
  · obtain ⟨m', hm', rfl⟩ := List.mem_map.1 hm
    exact hg.nons m' hm' i hi
/-- All numbers stay. -/
def Clean (g : Gr) : Prop := (∀ x ∈ g.roots, put g x = x) ∧ ∀ m ∈ g.nodes, ∀ x ∈ m.kids, put g x = x
theorem nx_at {g : Gr} {k : Int} (h0 : 0 ≤ k) {m : Nd} (h : g.nodes[k.toNat]? = some m) : nx g k = leadsN g.nodes m := by
  unfold nx; rw [if_neg (by omega), h]; rfl
/-- What leads on leads on behind a round. -/
theorem leads_on {g : Gr} (hg : Small g) {k : Int} (hk : k < g.nodes.length) (h : ¬ Stays g k) : ¬ Stays (round g) k := by
  have h0 : 0 ≤ k := by
    by_cases h0 : 0 ≤ k
    · exact h0
    · exact absurd (.inl (by omega)) h
  have hlt : k.toNat < g.nodes.length := by omega
  obtain ⟨m, hm⟩ : ∃ m, g.nodes[k.toNat]? = some m := ⟨_, List.getElem?_eq_getElem hlt⟩
  have hmm : m ∈ g.nodes := List.mem_of_getElem? hm
  have hr : (round g).nodes[k.toNat]? = some { m with kids := m.kids.map (put g) } := by simp [round, hm]
  have e1 := nx_at h0 hm
  have e2 := nx_at (g := round g) h0 hr
  have hn : 0 ≤ nx g k ∨ nx g k = -2 := by
    by_cases h1 : 0 ≤ nx g k
    · exact .inl h1
    · by_cases h2 : nx g k = -2
      · exact .inr h2
      · exact absurd (.inr ⟨by omega, h2⟩) h
  have put_on : ∀ x : Int, x < g.nodes.length → 0 ≤ x ∨ x = -2 → 0 ≤ put g x ∨ put g x = -2 := by
    intro x hx hx2
    rcases hx2 with hx0 | rfl
    · rcases endN_cases (nx := nx g) (fun k _ _ => nx_lt hg k) hx0 hx with ⟨d, hd⟩ | ⟨_, h2⟩
      · rcases hd.end_ with e | ⟨e, _⟩
        · exact .inr e
        · exact .inl e
      · exact .inr h2
    · exact .inr (put_neg g (by decide))
  have goal : 0 ≤ nx (round g) k ∨ nx (round g) k = -2 := by
    rw [e2]
    rw [e1] at hn
    unfold leadsN at hn ⊢
    cases hk2 : m.kids with
    | nil => rw [hk2] at hn; simp at hn
    | cons to l =>
      rw [hk2] at hn
      simp only [List.map_cons] at hn ⊢
      have hto := hg.kids m hmm to (by rw [hk2]; exact List.mem_cons_self)
      by_cases hi : m.kind = kInd
      · rw [if_pos hi] at hn ⊢
        exact put_on to hto hn
      rw [if_neg hi] at hn ⊢
      by_cases hs : m.kind ≠ kSel ∨ to < 0
      · rw [if_pos hs] at hn; omega
      rw [if_neg hs] at hn
      have hto0 : 0 ≤ to := by omega
      have htl : to.toNat < g.nodes.length := by omega
      cases hno : m.nons with
      | nil => rw [hno] at hn; simp at hn
      | cons i ns =>
        have hi0 := hg.nons m hmm i (by rw [hno]; exact List.mem_cons_self)
        obtain ⟨c, hc⟩ : ∃ c, g.nodes[to.toNat]? = some c := ⟨_, List.getElem?_eq_getElem htl⟩
        have hcm : c ∈ g.nodes := List.mem_of_getElem? hc
        rw [hno, hc] at hn
        simp only at hn
        by_cases hb : c.kind ≠ kCon ∨ c.info ≠ m.info ∨ (c.kids.length : Int) ≤ i
        · rw [if_pos hb] at hn; omega
        rw [if_neg hb] at hn
        have hck : c.kind = kCon := by
          by_cases e : c.kind = kCon
          · exact e
          · exact absurd (.inl e) hb
        -- the constructor stays where it is
        have hstay : put g to = to := by
          refine put_of_stays (.inr ?_)
          have : nx g to = -1 := by
            rw [nx_at hto0 hc]
            unfold leadsN
            split
            · rfl
            · rw [if_neg (by rw [hck]; decide), if_pos (.inl (by rw [hck]; decide))]
          rw [this]
          decide
        rw [hstay, if_neg (by rintro (h1 | h1); exact hs (.inl h1); omega)]
        have hcr : (round g).nodes[to.toNat]? = some { c with kids := c.kids.map (put g) } := by simp [round, hc]
        rw [hcr]
        simp only [List.length_map]
        rw [if_neg hb]
        have hil : i.toNat < c.kids.length := by
          have : ¬ (c.kids.length : Int) ≤ i := fun h => hb (.inr (.inr h))
          omega
        rw [List.getElem?_map, List.getElem?_eq_getElem hil]
        rw [List.getElem?_eq_getElem hil] at hn
        simp only [Option.map_some, Option.getD_some] at hn ⊢
        exact put_on _ (hg.kids c hcm _ (List.getElem_mem hil)) hn
  rintro (h1 | ⟨h1, h2⟩)
  · omega
  · omega
instance (g : Gr) (k : Int) : Decidable (Stays g k) := by unfold Stays; infer_instance
instance (g : Gr) : Decidable (Clean g) := by unfold Clean; infer_instance
theorem filter_le {α : Type} (p q : α → Bool) : ∀ (l : List α), (∀ x ∈ l, p x = true → q x = true) → (l.filter p).length ≤ (l.filter q).length
  | [], _ => Nat.le_refl _
  | a :: l, h => by
    have ih := filter_le p q l fun x hx => h x (List.mem_cons_of_mem _ hx)
    have ha := h a List.mem_cons_self
    rw [List.filter_cons, List.filter_cons]
    cases hp : p a with
    | true => rw [ha hp]; simp; exact ih
    | false => cases q a <;> simp <;> omega
theorem filter_lt {α : Type} (p q : α → Bool) : ∀ (l : List α), (∀ x ∈ l, p x = true → q x = true) → ∀ x ∈ l, p x = false → q x = true → (l.filter p).length < (l.filter q).length
  | a :: l, h, x, hx, hp, hq => by
    have h' : ∀ x ∈ l, p x = true → q x = true := fun x hx => h x (List.mem_cons_of_mem _ hx)
    rw [List.filter_cons, List.filter_cons]
    rcases List.mem_cons.1 hx with rfl | hx
    · rw [hp, hq]
      have := filter_le p q l h'
      simp; omega
    · have ih := filter_lt p q l h' x hx hp hq
      have ha := h a List.mem_cons_self
      cases hpa : p a with
      | true => rw [ha hpa]; simp; exact ih
      | false => cases q a <;> simp <;> omega
/-- How many nodes lead on. -/
def busy (g : Gr) : Nat := ((List.range g.nodes.length).filter fun k : Nat => !decide (Stays g k)).length
theorem busy_le (g : Gr) : busy g ≤ g.nodes.length := by
  have := List.length_filter_le (fun k : Nat => !decide (Stays g k)) (List.range g.nodes.length)
  rwa [List.length_range] at this
/-- A round behind which not all stays leaves more nodes that lead on than there were. -/
theorem busy_more {g : Gr} (hg : Small g) (h : ¬ Clean (round g)) : busy g < busy (round g) := by
  have : ∃ x, x < (g.nodes.length : Int) ∧ Stays g x ∧ ¬ Stays (round g) x := by
    have key : ∀ y : Int, y < g.nodes.length → put (round g) (put g y) ≠ put g y → ∃ x, x < (g.nodes.length : Int) ∧ Stays g x ∧ ¬ Stays (round g) x := fun y hy hne =>
      ⟨put g y, put_lt hg hy, put_stays hg hy, fun hs => hne (put_of_stays hs)⟩
    by_cases h1 : ∀ x ∈ (round g).roots, put (round g) x = x
    · have h2 : ¬ ∀ m ∈ (round g).nodes, ∀ x ∈ m.kids, put (round g) x = x := fun h2 => h ⟨h1, h2⟩
      simp only [Classical.not_forall] at h2
      obtain ⟨m, hm, x, hx, hne⟩ := h2
      obtain ⟨m', hm', rfl⟩ := List.mem_map.1 hm
      obtain ⟨y, hy, rfl⟩ := List.mem_map.1 hx
      exact key y (hg.kids m' hm' y hy) hne
    · simp only [Classical.not_forall] at h1
      obtain ⟨x, hx, hne⟩ := h1
      obtain ⟨y, hy, rfl⟩ := List.mem_map.1 hx
      exact key y (hg.roots y hy) hne
  obtain ⟨x, hx, h1, h2⟩ := this
  have h0 : 0 ≤ x := by
    by_cases h0 : 0 ≤ x
    · exact h0
    · exact absurd (.inl (by omega)) h2
  unfold busy
  rw [round_len]
  refine filter_lt _ _ _ (fun k hk hp => ?_) x.toNat (by rw [List.mem_range]; omega) ?_ ?_
  · have hk' := List.mem_range.1 hk
    simp only [Bool.not_eq_true', decide_eq_false_iff_not] at hp ⊢
    exact leads_on hg (by omega) hp
  · rw [Int.toNat_of_nonneg h0]; simp [h1]
  · rw [Int.toNat_of_nonneg h0]; simp [h2]
theorem round_clean {g : Gr} (h : Clean g) : round g = g := by
  obtain ⟨r, ns⟩ := g
  unfold round
  congr 1
  · exact (List.map_congr_left h.1).trans (List.map_id _)
  · refine (List.map_congr_left fun m hm => ?_).trans (List.map_id _)
    obtain ⟨a, b, c, d⟩ := m
    show Nd.mk a b c (d.map _) = _
    rw [(List.map_congr_left (h.2 _ hm)).trans (List.map_id _)]
    rfl
/-- Rounds, till all stays. -/
def rounds : Nat → Gr → Gr
  | 0, g => g
  | f + 1, g => if Clean g then g else rounds f (round g)
theorem rounds_more : ∀ (f : Nat) (g : Gr), Small g → Clean g ∨ g.nodes.length < f + busy g → ∀ f', f ≤ f' → rounds f' g = rounds f g ∧ Clean (rounds f g)
  | 0, g, hg, h, f', hf => by
    have hc : Clean g := by
      rcases h with h | h
      · exact h
      · have := busy_le g; omega
    refine ⟨?_, hc⟩
    cases f' with
    | zero => rfl
    | succ f' => show (if Clean g then g else rounds f' (round g)) = g; rw [if_pos hc]
  | f + 1, g, hg, h, f', hf => by
    obtain ⟨f', rfl⟩ : ∃ k, f' = k + 1 := ⟨f' - 1, by omega⟩
    rw [rounds, rounds]
    by_cases hc : Clean g
    · rw [if_pos hc, if_pos hc]; exact ⟨rfl, hc⟩
    rw [if_neg hc, if_neg hc]
    refine rounds_more f (round g) (round_small hg) ?_ f' (by omega)
    by_cases hr : Clean (round g)
    · exact .inl hr
    · have := busy_more hg hr
      rw [round_len]
      rcases h with h | h
      · exact absurd h hc
      · exact .inr (by omega)
end Go.Proofs.Ythdbmbabfngakaa.G
