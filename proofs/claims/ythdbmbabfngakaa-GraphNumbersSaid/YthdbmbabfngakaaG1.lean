/- Graphs as data: where going on ends. -/
import Derived.Test.YthdbmbabfngakaaG0
namespace Go.Proofs.Ythdbmbabfngakaa.G
set_option linter.unusedSimpArgs false
set_option linter.unusedVariables false
/-- From a number on, in so many steps, to its end (-2: lost). -/
inductive ToD (nx : Int → Int) : Nat → Int → Int → Prop
  | stop {k : Int} : 0 ≤ k → nx k < 0 → nx k ≠ -2 → ToD nx 0 k k
  | lost {k : Int} : 0 ≤ k → nx k = -2 → ToD nx 0 k (-2)
  | step {d : Nat} {k t : Int} : 0 ≤ k → 0 ≤ nx k → ToD nx d (nx k) t → ToD nx (d + 1) k t
theorem ToD.det {nx : Int → Int} : ∀ {d : Nat} {k t : Int}, ToD nx d k t → ∀ {d' : Nat} {t' : Int}, ToD nx d' k t' → d = d' ∧ t = t'
  | _, _, _, .stop h1 h2 h3, _, _, h => by
    cases h with
    | stop => exact ⟨rfl, rfl⟩
    | lost _ e => exact absurd e h3
    | step _ e _ => omega
  | _, _, _, .lost h1 h2, _, _, h => by
    cases h with
    | stop _ _ e => exact absurd h2 e
    | lost => exact ⟨rfl, rfl⟩
    | step _ e _ => omega
  | _, _, _, .step h1 h2 h3, _, _, h => by
    cases h with
    | stop _ e _ => omega
    | lost _ e => omega
    | step _ _ e =>
      obtain ⟨e1, e2⟩ := h3.det e
      exact ⟨by omega, e2⟩
theorem ToD.from {nx : Int → Int} {d : Nat} {k t : Int} (h : ToD nx d k t) : 0 ≤ k := by cases h <;> assumption
/-- Where it ends: itself on the way nowhere, or lost. -/
theorem ToD.end_ {nx : Int → Int} : ∀ {d : Nat} {k t : Int}, ToD nx d k t → t = -2 ∨ (0 ≤ t ∧ nx t < 0 ∧ nx t ≠ -2)
  | _, _, _, .stop h1 h2 h3 => .inr ⟨h1, h2, h3⟩
  | _, _, _, .lost h1 h2 => .inl rfl
  | _, _, _, .step h1 h2 h3 => h3.end_
def vis (nx : Int → Int) : Nat → Int → List Int
  | 0, k => [k]
  | d + 1, k => k :: vis nx d (nx k)
theorem vis_len (nx : Int → Int) : ∀ (d : Nat) (k : Int), (vis nx d k).length = d + 1
  | 0, k => rfl
  | d + 1, k => by simp [vis, vis_len nx d]
theorem mem_vis {nx : Int → Int} : ∀ {d : Nat} {k t x : Int}, ToD nx d k t → x ∈ vis nx d k → ∃ d', d' ≤ d ∧ ToD nx d' x t
  | 0, k, t, x, h, hx => by
    rw [vis, List.mem_singleton] at hx
    subst hx
    exact ⟨0, Nat.le_refl _, h⟩
  | d + 1, k, t, x, h, hx => by
    rw [vis, List.mem_cons] at hx
    rcases hx with rfl | hx
    · exact ⟨d + 1, Nat.le_refl _, h⟩
    · cases h with
      | step _ _ h =>
        obtain ⟨d', h1, h2⟩ := mem_vis h hx
        exact ⟨d', by omega, h2⟩
theorem vis_nodup {nx : Int → Int} : ∀ {d : Nat} {k t : Int}, ToD nx d k t → (vis nx d k).Nodup
  | 0, k, t, h => by simp [vis]
  | d + 1, k, t, h => by
    cases h with
    | step h1 h2 h3 =>
      rw [vis, List.nodup_cons]
      refine ⟨fun hm => ?_, vis_nodup h3⟩
      obtain ⟨d', k1, k2⟩ := mem_vis h3 hm
      have := (ToD.step h1 h2 h3).det k2
      omega
theorem vis_rng {nx : Int → Int} {n : Nat} (hnx : ∀ k : Int, 0 ≤ k → k < n → nx k < n) : ∀ {d : Nat} {k t : Int}, ToD nx d k t → k < n → ∀ x ∈ vis nx d k, 0 ≤ x ∧ x < n
  | 0, k, t, h, hk, x, hx => by
    rw [vis, List.mem_singleton] at hx
    subst hx
    exact ⟨h.from, hk⟩
  | d + 1, k, t, h, hk, x, hx => by
    rw [vis, List.mem_cons] at hx
    rcases hx with rfl | hx
    · exact ⟨h.from, hk⟩
    · cases h with
      | step h1 h2 h3 => exact vis_rng hnx h3 (hnx _ h1 hk) x hx
theorem ToD.few {nx : Int → Int} {n : Nat} (hnx : ∀ k : Int, 0 ≤ k → k < n → nx k < n) {d : Nat} {k t : Int} (h : ToD nx d k t) (hk : k < n) : d < n := by
  have := (Met.mk (vis_nodup h) (vis_rng hnx h hk)).len
  rw [vis_len] at this
  omega
/-- Going on, in at most so many steps. -/
def endF (nx : Int → Int) : Nat → Int → Int
  | 0, _ => -2
  | f + 1, k => if k < 0 then k else if nx k = -2 then -2 else if nx k < 0 then k else endF nx f (nx k)
theorem endF_of {nx : Int → Int} : ∀ {d f : Nat} {k t : Int}, ToD nx d k t → d < f → endF nx f k = t
  | d, 0, k, t, h, hf => absurd hf (by omega)
  | d, f + 1, k, t, h, hf => by
    have h0 := h.from
    rw [endF, if_neg (by omega)]
    cases h with
    | stop _ h2 h3 => rw [if_neg h3, if_pos h2]
    | lost _ h2 => rw [if_pos h2]
    | step _ h2 h3 =>
      rw [if_neg (by omega), if_neg (by omega)]
      exact endF_of h3 (by omega)
theorem endF_not {nx : Int → Int} : ∀ {f : Nat} {k : Int}, 0 ≤ k → (∀ d t, ¬ ToD nx d k t) → endF nx f k = -2
  | 0, k, _, _ => rfl
  | f + 1, k, h0, h => by
    rw [endF, if_neg (by omega)]
    by_cases h1 : nx k = -2
    · rw [if_pos h1]
    rw [if_neg h1]
    by_cases h2 : nx k < 0
    · exact absurd (ToD.stop h0 h2 h1) (h _ _)
    rw [if_neg h2]
    exact endF_not (by omega) fun d t hd => h _ _ (.step h0 (by omega) hd)
/-- Where going on from a number ends. -/
def endN (nx : Int → Int) (n : Nat) (k : Int) : Int := endF nx (n + 1) k
theorem endN_neg {nx : Int → Int} {n : Nat} {k : Int} (h : k < 0) : endN nx n k = k := by unfold endN; rw [endF, if_pos h]
theorem endN_of {nx : Int → Int} {n : Nat} (hnx : ∀ k : Int, 0 ≤ k → k < n → nx k < n) {d : Nat} {k t : Int} (h : ToD nx d k t) (hk : k < n) : endN nx n k = t :=
  endF_of h (by have := h.few hnx hk; omega)
theorem endN_not {nx : Int → Int} {n : Nat} {k : Int} (h0 : 0 ≤ k) (h : ∀ d t, ¬ ToD nx d k t) : endN nx n k = -2 := endF_not h0 h
theorem endN_cases {nx : Int → Int} {n : Nat} (hnx : ∀ k : Int, 0 ≤ k → k < n → nx k < n) {k : Int} (h0 : 0 ≤ k) (hk : k < n) : (∃ d, ToD nx d k (endN nx n k)) ∨ ((∀ d t, ¬ ToD nx d k t) ∧ endN nx n k = -2) := by
  by_cases h : ∃ d t, ToD nx d k t
  · obtain ⟨d, t, h⟩ := h
    rw [endN_of hnx h hk]
    exact .inl ⟨d, h⟩
  · have h' : ∀ d t, ¬ ToD nx d k t := fun d t hd => h ⟨d, t, hd⟩
    exact .inr ⟨h', endN_not h0 h'⟩
theorem endN_step {nx : Int → Int} {n : Nat} (hnx : ∀ k : Int, 0 ≤ k → k < n → nx k < n) {k : Int} (h0 : 0 ≤ k) (hk : k < n) (h : 0 ≤ nx k) : endN nx n k = endN nx n (nx k) := by
  rcases endN_cases hnx h (hnx k h0 hk) with ⟨d, hd⟩ | ⟨h1, h2⟩
  · rw [endN_of hnx (.step h0 h hd) hk]
  · rw [h2]
    refine endN_not h0 fun d t hd => ?_
    cases hd with
    | stop _ e _ => omega
    | lost _ e => omega
    | step _ _ e => exact h1 _ _ e
theorem endN_stop {nx : Int → Int} {n : Nat} {k : Int} (h0 : 0 ≤ k) (h1 : nx k < 0) (h2 : nx k ≠ -2) : endN nx n k = k := by
  unfold endN; rw [endF, if_neg (by omega), if_neg h2, if_pos h1]
theorem endN_lost {nx : Int → Int} {n : Nat} {k : Int} (h0 : 0 ≤ k) (h1 : nx k = -2) : endN nx n k = -2 := by
  unfold endN; rw [endF, if_neg (by omega), if_pos h1]
/-- Round and round: lost. -/
theorem endN_round {nx : Int → Int} {n : Nat} {k : Int} {l : List Int} (h0 : 0 ≤ k) (hl : ∀ x ∈ l, 0 ≤ x ∧ 0 ≤ nx x ∧ nx x ∈ l) (hk : k ∈ l) : endN nx n k = -2 := by
  refine endN_not h0 fun d => ?_
  have key : ∀ (d : Nat) (k : Int), k ∈ l → ∀ t, ¬ ToD nx d k t := by
    intro d
    induction d with
    | zero =>
      intro k hk t hd
      have := (hl k hk).2.1
      cases hd with
      | stop _ e _ => omega
      | lost _ e => omega
    | succ d ih =>
      intro k hk t hd
      cases hd with
      | step _ _ e => exact ih _ (hl k hk).2.2 t e
  exact key d k hk
end Go.Proofs.Ythdbmbabfngakaa.G
