/- Graphs as data: the order of meeting. No program is in sight here. -/
import Derived.Test.YthdbmbabfngakaaE17
namespace Go.Proofs.Ythdbmbabfngakaa.G
set_option linter.unusedSimpArgs false
set_option linter.unusedVariables false
structure Nd where
  kind : Int
  info : Int
  nons : List Int
  kids : List Int
structure Gr where
  roots : List Int
  nodes : List Nd
/-- A node's number, or -1. -/
def real (n : Nat) (k : Int) : Int := if k < 0 ∨ (n : Int) ≤ k then -1 else k
theorem real_pos {n : Nat} {k : Int} (h : 0 ≤ real n k) : real n k = k ∧ 0 ≤ k ∧ k < n := by
  unfold real at h ⊢
  split
  · rename_i c; rw [if_pos c] at h; omega
  · exact ⟨rfl, by omega, by omega⟩
theorem real_in {n : Nat} {k : Int} (h : 0 ≤ k) (h2 : k < n) : real n k = k := by unfold real; rw [if_neg (by omega)]
theorem real_real (n : Nat) (k : Int) : real n (real n k) = real n k := by
  unfold real
  split
  · simp
  · rfl
def kidsOf (g : Gr) (k : Int) : List Int := ((g.nodes[k.toNat]?).map Nd.kids).getD []
def realKids (g : Gr) (k : Int) : List Int := (kidsOf g k).map (real g.nodes.length)
/-- Into what is not met yet. -/
def visit (g : Gr) : Nat → Int → List Int → List Int
  | 0, _, met => met
  | f + 1, x, met => if x < 0 ∨ x ∈ met then met else (realKids g x).foldl (fun m c => visit g f c m) (met ++ [x])
abbrev visits (g : Gr) (f : Nat) (l met : List Int) : List Int := l.foldl (fun m c => visit g f c m) met
/-- What was met: each once, and each a node's number. -/
structure Met (n : Nat) (met : List Int) : Prop where
  nodup : met.Nodup
  rng : ∀ x ∈ met, 0 ≤ x ∧ x < n
theorem Met.nil (n : Nat) : Met n [] := ⟨List.nodup_nil, by simp⟩
theorem Met.snoc {n : Nat} {met : List Int} {x : Int} (h : Met n met) (hx : 0 ≤ x) (hx2 : x < n) (hn : x ∉ met) : Met n (met ++ [x]) := by
  refine ⟨?_, fun y hy => ?_⟩
  · rw [List.nodup_append]
    exact ⟨h.nodup, by simp, fun a ha b hb => by rw [List.mem_singleton.1 hb]; rintro rfl; exact hn ha⟩
  · rcases List.mem_append.1 hy with hy | hy
    · exact h.rng y hy
    · rw [List.mem_singleton.1 hy]; exact ⟨hx, hx2⟩
theorem nodup_bound : ∀ (n : Nat) (l : List Nat), l.Nodup → (∀ x ∈ l, x < n) → l.length ≤ n
  | 0, l, _, h => by
    cases l with
    | nil => simp
    | cons a l => exact absurd (h a List.mem_cons_self) (by omega)
  | n + 1, l, hd, h => by
    by_cases hm : n ∈ l
    · have h1 := nodup_bound n (l.erase n) (hd.erase n) fun x hx => by
        have h2 := (List.Nodup.mem_erase_iff hd).1 hx
        have := h x h2.2
        omega
      rw [List.length_erase_of_mem hm] at h1
      omega
    · have := nodup_bound n l hd fun x hx => by
        have := h x hx
        have : x ≠ n := by rintro rfl; exact hm hx
        omega
      omega
theorem Met.len {n : Nat} {met : List Int} (h : Met n met) : met.length ≤ n := by
  have := nodup_bound n (met.map Int.toNat) (by
    rw [List.Nodup, List.pairwise_map]
    refine List.Pairwise.imp_of_mem ?_ h.nodup
    intro a b ha hb hne e
    have := h.rng a ha
    have := h.rng b hb
    exact hne (by omega)) (fun x hx => by
    obtain ⟨y, hy, rfl⟩ := List.mem_map.1 hx
    have := h.rng y hy
    omega)
  simpa using this
/-- A list of real numbers. -/
def Reals (n : Nat) (l : List Int) : Prop := ∀ x ∈ l, x < n
theorem reals_kids (g : Gr) (k : Int) : Reals g.nodes.length (realKids g k) := fun x hx => by
  obtain ⟨y, _, rfl⟩ := List.mem_map.1 hx
  unfold real
  split <;> omega
/-- What a visit leaves: more, still each once. -/
theorem visit_met (g : Gr) : ∀ (f : Nat) (x : Int) (met : List Int), x < g.nodes.length → Met g.nodes.length met → Met g.nodes.length (visit g f x met) ∧ ∃ l, visit g f x met = met ++ l
  | 0, x, met, _, h => ⟨h, [], by simp [visit]⟩
  | f + 1, x, met, hx, h => by
    unfold visit
    split
    · exact ⟨h, [], by simp⟩
    · rename_i c
      have h0 : 0 ≤ x := by omega
      have hn : x ∉ met := fun hm => c (.inr hm)
      have key : ∀ (l met : List Int), Reals g.nodes.length l → Met g.nodes.length met → Met g.nodes.length (visits g f l met) ∧ ∃ l', visits g f l met = met ++ l' := by
        intro l
        induction l with
        | nil => intro met _ hm; exact ⟨hm, [], by simp [visits]⟩
        | cons y l ih =>
          intro met hl hm
          obtain ⟨h1, l1, e1⟩ := visit_met g f y met (hl y List.mem_cons_self) hm
          obtain ⟨h2, l2, e2⟩ := ih (visit g f y met) (fun z hz => hl z (List.mem_cons_of_mem _ hz)) h1
          refine ⟨h2, l1 ++ l2, ?_⟩
          show visits g f l (visit g f y met) = _
          rw [e2, e1, List.append_assoc]
      obtain ⟨h1, l1, e1⟩ := key (realKids g x) (met ++ [x]) (reals_kids g x) (h.snoc h0 hx hn)
      exact ⟨h1, x :: l1, by show visits g f _ _ = _; rw [e1]; simp⟩
theorem visits_met (g : Gr) (f : Nat) : ∀ (l met : List Int), Reals g.nodes.length l → Met g.nodes.length met → Met g.nodes.length (visits g f l met) ∧ ∃ l', visits g f l met = met ++ l'
  | [], met, _, hm => ⟨hm, [], by simp [visits]⟩
  | y :: l, met, hl, hm => by
    obtain ⟨h1, l1, e1⟩ := visit_met g f y met (hl y List.mem_cons_self) hm
    obtain ⟨h2, l2, e2⟩ := visits_met g f l (visit g f y met) (fun z hz => hl z (List.mem_cons_of_mem _ hz)) h1
    refine ⟨h2, l1 ++ l2, ?_⟩
    show visits g f l (visit g f y met) = _
    rw [e2, e1, List.append_assoc]
/-- Enough fuel is enough. -/
theorem visit_more (g : Gr) : ∀ (f : Nat) (x : Int) (met : List Int), x < g.nodes.length → Met g.nodes.length met → g.nodes.length < f + met.length → visit g f x met = visit g (f + 1) x met
  | 0, x, met, _, h, hf => absurd h.len (by omega)
  | f + 1, x, met, hx, h, hf => by
    have e1 : visit g (f + 1) x met = if x < 0 ∨ x ∈ met then met else visits g f (realKids g x) (met ++ [x]) := by rw [visit]
    have e2 : visit g (f + 2) x met = if x < 0 ∨ x ∈ met then met else visits g (f + 1) (realKids g x) (met ++ [x]) := by rw [visit]
    rw [e1, e2]
    split
    · rfl
    · rename_i c
      have h0 : 0 ≤ x := by omega
      have hn : x ∉ met := fun hm => c (.inr hm)
      have key : ∀ (l met : List Int), Reals g.nodes.length l → Met g.nodes.length met → g.nodes.length < f + met.length → visits g f l met = visits g (f + 1) l met := by
        intro l
        induction l with
        | nil => intro met _ _ _; rfl
        | cons y l ih =>
          intro met hl hm hlen
          have e := visit_more g f y met (hl y List.mem_cons_self) hm hlen
          obtain ⟨h1, l1, e1⟩ := visit_met g f y met (hl y List.mem_cons_self) hm
          show visits g f l (visit g f y met) = visits g (f + 1) l (visit g (f + 1) y met)
          rw [← e]
          exact ih _ (fun z hz => hl z (List.mem_cons_of_mem _ hz)) h1 (by rw [e1]; simp; omega)
      exact key _ _ (reals_kids g x) (h.snoc h0 hx hn) (by simp; omega)
theorem visits_more (g : Gr) (f : Nat) : ∀ (l met : List Int), Reals g.nodes.length l → Met g.nodes.length met → g.nodes.length < f + met.length → visits g f l met = visits g (f + 1) l met
  | [], met, _, _, _ => rfl
  | y :: l, met, hl, hm, hlen => by
    have e := visit_more g f y met (hl y List.mem_cons_self) hm hlen
    obtain ⟨h1, l1, e1⟩ := visit_met g f y met (hl y List.mem_cons_self) hm
    show visits g f l (visit g f y met) = visits g (f + 1) l (visit g (f + 1) y met)
    rw [← e]
    exact visits_more g f l _ (fun z hz => hl z (List.mem_cons_of_mem _ hz)) h1 (by rw [e1]; simp; omega)
/-- The fuel that is always enough. -/
abbrev full (g : Gr) : Nat := g.nodes.length + 1
/-- Into one that is not met: its Kids next. -/
theorem visit_new (g : Gr) {x : Int} {met : List Int} (h0 : 0 ≤ x) (hx : x < g.nodes.length) (hm : Met g.nodes.length met) (hn : x ∉ met) :
    visit g (full g) x met = visits g (full g) (realKids g x) (met ++ [x]) := by
  have e1 : visit g (full g) x met = visits g g.nodes.length (realKids g x) (met ++ [x]) := by
    show visit g (g.nodes.length + 1) x met = _
    rw [visit, if_neg (by rintro (h | h); omega; exact hn h)]
  rw [e1]
  exact visits_more g _ _ _ (reals_kids g x) (hm.snoc h0 hx hn) (by simp)
theorem visit_old (g : Gr) {f : Nat} {x : Int} {met : List Int} (h : x < 0 ∨ x ∈ met) : visit g f x met = met := by
  cases f with
  | zero => rfl
  | succ f => rw [visit, if_pos h]
/-- A stack of lists, the top one first. -/
def stack (g : Gr) (todo : List (List Int)) (met : List Int) : List Int := todo.foldl (fun m l => visits g (full g) l m) met
theorem visits_old (g : Gr) {f : Nat} {l met : List Int} (h : ∀ x ∈ l, x < 0 ∨ x ∈ met) : visits g f l met = met := by
  induction l with
  | nil => rfl
  | cons y l ih =>
    show visits g f l (visit g f y met) = met
    rw [visit_old g (h y List.mem_cons_self)]
    exact ih fun x hx => h x (List.mem_cons_of_mem _ hx)
/-- The top list holds nothing new: off with it. -/
theorem stack_pop (g : Gr) {l : List Int} {todo : List (List Int)} {met : List Int} (h : ∀ x ∈ l, x < 0 ∨ x ∈ met) : stack g (l :: todo) met = stack g todo met := by
  show stack g todo (visits g (full g) l met) = _
  rw [visits_old g h]
/-- The first new one of the top list: its Kids on top. -/
theorem stack_push (g : Gr) {pre post : List Int} {x : Int} {todo : List (List Int)} {met : List Int} (h : ∀ y ∈ pre, y < 0 ∨ y ∈ met) (h0 : 0 ≤ x) (hx : x < g.nodes.length) (hm : Met g.nodes.length met) (hn : x ∉ met) :
    stack g ((pre ++ x :: post) :: todo) met = stack g (realKids g x :: post :: todo) (met ++ [x]) := by
  show stack g todo (visits g (full g) (pre ++ x :: post) met) = stack g todo (visits g (full g) post (visits g (full g) (realKids g x) (met ++ [x])))
  have : visits g (full g) (pre ++ x :: post) met = visits g (full g) post (visit g (full g) x (visits g (full g) pre met)) := by
    show List.foldl _ _ (pre ++ x :: post) = _
    rw [List.foldl_append]; rfl
  rw [this, visits_old g h, visit_new g h0 hx hm hn]
/-- The order of meeting. -/
def order (g : Gr) : List Int := visits g (full g) (g.roots.map (real g.nodes.length)) []
theorem order_met (g : Gr) : Met g.nodes.length (order g) := (visits_met g _ _ _ (fun x hx => by
  obtain ⟨y, _, rfl⟩ := List.mem_map.1 hx
  unfold real; split <;> omega) (Met.nil _)).1
end Go.Proofs.Ythdbmbabfngakaa.G
/- Graphs as data: where going on ends. -/
namespace Go.Proofs.Ythdbmbabfngakaa.G
set_option linter.unusedSimpArgs false
set_option linter.unusedVariables false
/-- From a number on, in so many steps, to its end (-2: lost). -/
inductive ToD (nx : Int → Int) : Nat → Int → Int → Prop
  | stop {k : Int} : 0 ≤ k → nx k < 0 → nx k ≠ -2 → ToD nx 0 k k
  | lost {k : Int} : 0 ≤ k → nx k = -2 → ToD nx 0 k (-2)
  | step {d : Nat} {k t : Int} : 0 ≤ k → 0 ≤ nx k → ToD nx d (nx k) t → ToD nx (d + 1) k t
theorem ToD.det {nx : Int → Int} : ∀ {d : Nat} {k t : Int}, ToD nx d k t → ∀ {d' : Nat} {t' : Int}, ToD nx d' k t' → d = d' ∧ t = t'
  | _, _, _, .stop h1 h2 h3, _, _, h => by
    cases h with
    | stop => exact ⟨rfl, rfl⟩
    | lost _ e => exact absurd e h3
    | step _ e _ => omega
  | _, _, _, .lost h1 h2, _, _, h => by
    cases h with
    | stop _ _ e => exact absurd h2 e
    | lost => exact ⟨rfl, rfl⟩
    | step _ e _ => omega
  | _, _, _, .step h1 h2 h3, _, _, h => by
    cases h with
    | stop _ e _ => omega
    | lost _ e => omega
    | step _ _ e =>
      obtain ⟨e1, e2⟩ := h3.det e
      exact ⟨by omega, e2⟩
theorem ToD.from {nx : Int → Int} {d : Nat} {k t : Int} (h : ToD nx d k t) : 0 ≤ k := by cases h <;> assumption
/-- Where it ends: itself on the way nowhere, or lost. -/
theorem ToD.end_ {nx : Int → Int} : ∀ {d : Nat} {k t : Int}, ToD nx d k t → t = -2 ∨ (0 ≤ t ∧ nx t < 0 ∧ nx t ≠ -2)
  | _, _, _, .stop h1 h2 h3 => .inr ⟨h1, h2, h3⟩
  | _, _, _, .lost h1 h2 => .inl rfl
  | _, _, _, .step h1 h2 h3 => h3.end_
def vis (nx : Int → Int) : Nat → Int → List Int
  | 0, k => [k]
  | d + 1, k => k :: vis nx d (nx k)
theorem vis_len (nx : Int → Int) : ∀ (d : Nat) (k : Int), (vis nx d k).length = d + 1
  | 0, k => rfl
  | d + 1, k => by simp [vis, vis_len nx d]
theorem mem_vis {nx : Int → Int} : ∀ {d : Nat} {k t x : Int}, ToD nx d k t → x ∈ vis nx d k → ∃ d', d' ≤ d ∧ ToD nx d' x t
  | 0, k, t, x, h, hx => by
    rw [vis, List.mem_singleton] at hx
    subst hx
    exact ⟨0, Nat.le_refl _, h⟩
  | d + 1, k, t, x, h, hx => by
    rw [vis, List.mem_cons] at hx
    rcases hx with rfl | hx
    · exact ⟨d + 1, Nat.le_refl _, h⟩
    · cases h with
      | step _ _ h =>
        obtain ⟨d', h1, h2⟩ := mem_vis h hx
        exact ⟨d', by omega, h2⟩
theorem vis_nodup {nx : Int → Int} : ∀ {d : Nat} {k t : Int}, ToD nx d k t → (vis nx d k).Nodup
  | 0, k, t, h => by simp [vis]
  | d + 1, k, t, h => by
    cases h with
    | step h1 h2 h3 =>
      rw [vis, List.nodup_cons]
      refine ⟨fun hm => ?_, vis_nodup h3⟩
      obtain ⟨d', k1, k2⟩ := mem_vis h3 hm
      have := (ToD.step h1 h2 h3).det k2
      omega
theorem vis_rng {nx : Int → Int} {n : Nat} (hnx : ∀ k : Int, 0 ≤ k → k < n → nx k < n) : ∀ {d : Nat} {k t : Int}, ToD nx d k t → k < n → ∀ x ∈ vis nx d k, 0 ≤ x ∧ x < n
  | 0, k, t, h, hk, x, hx => by
    rw [vis, List.mem_singleton] at hx
    subst hx
    exact ⟨h.from, hk⟩
  | d + 1, k, t, h, hk, x, hx => by
    rw [vis, List.mem_cons] at hx
    rcases hx with rfl | hx
    · exact ⟨h.from, hk⟩
    · cases h with
      | step h1 h2 h3 => exact vis_rng hnx h3 (hnx _ h1 hk) x hx
theorem ToD.few {nx : Int → Int} {n : Nat} (hnx : ∀ k : Int, 0 ≤ k → k < n → nx k < n) {d : Nat} {k t : Int} (h : ToD nx d k t) (hk : k < n) : d < n := by
  have := (Met.mk (vis_nodup h) (vis_rng hnx h hk)).len
  rw [vis_len] at this
  omega
/-- Going on, in at most so many steps. -/
def endF (nx : Int → Int) : Nat → Int → Int
  | 0, _ => -2
  | f + 1, k => if k < 0 then k else if nx k = -2 then -2 else if nx k < 0 then k else endF nx f (nx k)
theorem endF_of {nx : Int → Int} : ∀ {d f : Nat} {k t : Int}, ToD nx d k t → d < f → endF nx f k = t
  | d, 0, k, t, h, hf => absurd hf (by omega)
  | d, f + 1, k, t, h, hf => by
    have h0 := h.from
    rw [endF, if_neg (by omega)]
    cases h with
    | stop _ h2 h3 => rw [if_neg h3, if_pos h2]
    | lost _ h2 => rw [if_pos h2]
    | step _ h2 h3 =>
      rw [if_neg (by omega), if_neg (by omega)]
      exact endF_of h3 (by omega)
theorem endF_not {nx : Int → Int} : ∀ {f : Nat} {k : Int}, 0 ≤ k → (∀ d t, ¬ ToD nx d k t) → endF nx f k = -2
  | 0, k, _, _ => rfl
  | f + 1, k, h0, h => by
    rw [endF, if_neg (by omega)]
    by_cases h1 : nx k = -2
    · rw [if_pos h1]
    rw [if_neg h1]
    by_cases h2 : nx k < 0
    · exact absurd (ToD.stop h0 h2 h1) (h _ _)
    rw [if_neg h2]
    exact endF_not (by omega) fun d t hd => h _ _ (.step h0 (by omega) hd)
/-- Where going on from a number ends. -/
def endN (nx : Int → Int) (n : Nat) (k : Int) : Int := endF nx (n + 1) k
theorem endN_neg {nx : Int → Int} {n : Nat} {k : Int} (h : k < 0) : endN nx n k = k := by unfold endN; rw [endF, if_pos h]
theorem endN_of {nx : Int → Int} {n : Nat} (hnx : ∀ k : Int, 0 ≤ k → k < n → nx k < n) {d : Nat} {k t : Int} (h : ToD nx d k t) (hk : k < n) : endN nx n k = t :=
  endF_of h (by have := h.few hnx hk; omega)
theorem endN_not {nx : Int → Int} {n : Nat} {k : Int} (h0 : 0 ≤ k) (h : ∀ d t, ¬ ToD nx d k t) : endN nx n k = -2 := endF_not h0 h
theorem endN_cases {nx : Int → Int} {n : Nat} (hnx : ∀ k : Int, 0 ≤ k → k < n → nx k < n) {k : Int} (h0 : 0 ≤ k) (hk : k < n) : (∃ d, ToD nx d k (endN nx n k)) ∨ ((∀ d t, ¬ ToD nx d k t) ∧ endN nx n k = -2) := by
  by_cases h : ∃ d t, ToD nx d k t
  · obtain ⟨d, t, h⟩ := h
    rw [endN_of hnx h hk]
    exact .inl ⟨d, h⟩
  · have h' : ∀ d t, ¬ ToD nx d k t := fun d t hd => h ⟨d, t, hd⟩
    exact .inr ⟨h', endN_not h0 h'⟩
theorem endN_step {nx : Int → Int} {n : Nat} (hnx : ∀ k : Int, 0 ≤ k → k < n → nx k < n) {k : Int} (h0 : 0 ≤ k) (hk : k < n) (h : 0 ≤ nx k) : endN nx n k = endN nx n (nx k) := by
  rcases endN_cases hnx h (hnx k h0 hk) with ⟨d, hd⟩ | ⟨h1, h2⟩
  · rw [endN_of hnx (.step h0 h hd) hk]
  · rw [h2]
    refine endN_not h0 fun d t hd => ?_
    cases hd with
    | stop _ e _ => omega
    | lost _ e => omega
    | step _ _ e => exact h1 _ _ e
theorem endN_stop {nx : Int → Int} {n : Nat} {k : Int} (h0 : 0 ≤ k) (h1 : nx k < 0) (h2 : nx k ≠ -2) : endN nx n k = k := by
  unfold endN; rw [endF, if_neg (by omega), if_neg h2, if_pos h1]
theorem endN_lost {nx : Int → Int} {n : Nat} {k : Int} (h0 : 0 ≤ k) (h1 : nx k = -2) : endN nx n k = -2 := by
  unfold endN; rw [endF, if_neg (by omega), if_pos h1]
/-- Round and round: lost. -/
theorem endN_round {nx : Int → Int} {n : Nat} {k : Int} {l : List Int} (h0 : 0 ≤ k) (hl : ∀ x ∈ l, 0 ≤ x ∧ 0 ≤ nx x ∧ nx x ∈ l) (hk : k ∈ l) : endN nx n k = -2 := by
  refine endN_not h0 fun d => ?_
  have key : ∀ (d : Nat) (k : Int), k ∈ l → ∀ t, ¬ ToD nx d k t := by
    intro d
    induction d with
    | zero =>
      intro k hk t hd
      have := (hl k hk).2.1
      cases hd with
      | stop _ e _ => omega
      | lost _ e => omega
    | succ d ih =>
      intro k hk t hd
      cases hd with
      | step _ _ e => exact ih _ (hl k hk).2.2 t e
  exact key d k hk
end Go.Proofs.Ythdbmbabfngakaa.G
