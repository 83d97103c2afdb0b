/- Graphs as data: what one comes to in the end, and that steps on the way leave it as it is. -/
import Derived.Test.YthdbmbabfngakaaG5
namespace Go.Proofs.Ythdbmbabfngakaa.G
set_option linter.unusedSimpArgs false
set_option linter.unusedVariables false
def nd (g : Gr) (k : Int) : Option Nd := if k < 0 then none else g.nodes[k.toNat]?
theorem nd_pos {g : Gr} {k : Int} {m : Nd} (h : nd g k = some m) : 0 ≤ k ∧ k < g.nodes.length ∧ m ∈ g.nodes ∧ g.nodes[k.toNat]? = some m := by
  unfold nd at h
  split at h
  · cases h
  · rename_i hk
    have hlt : k.toNat < g.nodes.length := by
      rcases Nat.lt_or_ge k.toNat g.nodes.length with h' | h'
      · exact h'
      · rw [List.getElem?_eq_none h'] at h; cases h
    exact ⟨by omega, by omega, List.mem_of_getElem? h, h⟩
theorem nd_some (g : Gr) {k : Int} (h0 : 0 ≤ k) (hk : k < g.nodes.length) : ∃ m, nd g k = some m := by
  unfold nd
  rw [if_neg (by omega)]
  exact ⟨_, List.getElem?_eq_getElem (by omega)⟩
/-- A number comes to a constructor. -/
inductive ConH (g : Gr) : Nat → Int → Int → Prop
  | con {h : Nat} {k : Int} {m : Nd} : nd g k = some m → m.kind = kCon → ConH g h k k
  | ind {h : Nat} {k c t : Int} {m : Nd} {l : List Int} : nd g k = some m → m.kind = kInd → m.kids = t :: l → ConH g h t c → ConH g (h + 1) k c
  | sel {h : Nat} {k c c' t i f : Int} {m mc : Nd} {l ns : List Int} : nd g k = some m → m.kind = kSel → m.kids = t :: l → m.nons = i :: ns → ConH g h t c → nd g c = some mc → mc.info = m.info → mc.kids[i.toNat]? = some f → ConH g h f c' → ConH g (h + 1) k c'
def Con (g : Gr) (k c : Int) : Prop := ∃ h, ConH g h k c
theorem ConH.mono {g : Gr} : ∀ {h : Nat} {k c : Int}, ConH g h k c → ∀ {h' : Nat}, h ≤ h' → ConH g h' k c
  | _, _, _, .con a b, h', _ => .con a b
  | _, _, _, .ind a b c d, h' + 1, hh => .ind a b c (d.mono (by omega))
  | _, _, _, .ind a b c d, 0, hh => absurd hh (by omega)
  | _, _, _, .sel a b c d e f1 f2 f3 f4, h' + 1, hh => .sel a b c d (e.mono (by omega)) f1 f2 f3 (f4.mono (by omega))
  | _, _, _, .sel a b c d e f1 f2 f3 f4, 0, hh => absurd hh (by omega)
theorem ConH.end_ {g : Gr} : ∀ {h : Nat} {k c : Int}, ConH g h k c → ∃ m, nd g c = some m ∧ m.kind = kCon
  | _, _, _, .con a b => ⟨_, a, b⟩
  | _, _, _, .ind a b c d => d.end_
  | _, _, _, .sel a b c d e f1 f2 f3 f4 => f4.end_
theorem ConH.from {g : Gr} {h : Nat} {k c : Int} (hc : ConH g h k c) : 0 ≤ k ∧ k < g.nodes.length := by
  cases hc with
  | con a b => exact ⟨(nd_pos a).1, (nd_pos a).2.1⟩
  | ind a b c d => exact ⟨(nd_pos a).1, (nd_pos a).2.1⟩
  | sel a b c d e f1 f2 f3 f4 => exact ⟨(nd_pos a).1, (nd_pos a).2.1⟩
theorem ConH.det {g : Gr} : ∀ {h : Nat} {k c : Int}, ConH g h k c → ∀ {h' : Nat} {c' : Int}, ConH g h' k c' → c = c'
  | _, _, _, .con a b, _, _, hc => by
    cases hc with
    | con => rfl
    | ind a' b' _ _ => rw [a] at a'; cases a'; rw [b] at b'; cases b'
    | sel a' b' _ _ _ _ _ _ _ => rw [a] at a'; cases a'; rw [b] at b'; cases b'
  | _, _, _, .ind a b c d, _, _, hc => by
    cases hc with
    | con a' b' => rw [a] at a'; cases a'; rw [b] at b'; cases b'
    | ind a' b' c' d' =>
      rw [a] at a'; cases a'
      rw [c] at c'; cases c'
      exact d.det d'
    | sel a' b' _ _ _ _ _ _ _ => rw [a] at a'; cases a'; rw [b] at b'; cases b'
  | _, _, _, .sel a b c d e f1 f2 f3 f4, _, _, hc => by
    cases hc with
    | con a' b' => rw [a] at a'; cases a'; rw [b] at b'; cases b'
    | ind a' b' c' d' => rw [a] at a'; cases a'; rw [b] at b'; cases b'
    | sel a' b' c' d' e' g1 g2 g3 g4 =>
      rw [a] at a'; cases a'
      rw [c] at c'; cases c'
      rw [d] at d'; cases d'
      have := e.det e'
      subst this
      rw [f1] at g1; cases g1
      rw [f3] at g3; cases g3
      exact f4.det g4
theorem Con.det {g : Gr} {k c c' : Int} (h : Con g k c) (h' : Con g k c') : c = c' := by
  obtain ⟨_, h⟩ := h
  obtain ⟨_, h'⟩ := h'
  exact h.det h'
theorem Con.end_ {g : Gr} {k c : Int} (h : Con g k c) : ∃ m, nd g c = some m ∧ m.kind = kCon := by
  obtain ⟨_, h⟩ := h
  exact h.end_
theorem Con.from {g : Gr} {k c : Int} (h : Con g k c) : 0 ≤ k ∧ k < g.nodes.length := by
  obtain ⟨_, h⟩ := h
  exact h.from
open Classical in
/-- Where one goes on from a node: a selector by the constructor that its Kid comes to. -/
noncomputable def selF (g : Gr) (m : Nd) (t i : Int) : Int := if h : ∃ c, Con g t c then (match nd g h.choose with
  | some mc => if mc.info = m.info then (mc.kids[i.toNat]?).getD (-1) else -1
  | none => -1) else -1
theorem selF_con {g : Gr} {m mc : Nd} {t i c : Int} (h : Con g t c) (hc : nd g c = some mc) : selF g m t i = if mc.info = m.info then (mc.kids[i.toNat]?).getD (-1) else -1 := by
  have hx : ∃ c, Con g t c := ⟨c, h⟩
  unfold selF
  rw [dif_pos hx]
  have : hx.choose = c := hx.choose_spec.det h
  rw [this, hc]
theorem selF_no {g : Gr} {m : Nd} {t i : Int} (h : ∀ c, ¬ Con g t c) : selF g m t i = -1 := by
  unfold selF
  rw [dif_neg (fun ⟨c, hc⟩ => h c hc)]
noncomputable def nextN (g : Gr) (m : Nd) : Int :=
  match m.kids with
  | [] => -1
  | t :: _ => if m.kind = kInd then t else if m.kind ≠ kSel then -1 else
    match m.nons with
    | [] => -1
    | i :: _ => selF g m t i
noncomputable def nextF (g : Gr) (k : Int) : Int := match nd g k with
  | some m => nextN g m
  | none => -1
theorem nextF_at {g : Gr} {k : Int} {m : Nd} (h : nd g k = some m) : nextF g k = nextN g m := by unfold nextF; rw [h]
theorem selF_lt {g : Gr} (hg : Small g) (m : Nd) (t i : Int) : selF g m t i < g.nodes.length := by
  by_cases h : ∃ c, Con g t c
  · obtain ⟨c, hc⟩ := h
    obtain ⟨mc, h1, _⟩ := hc.end_
    rw [selF_con hc h1]
    split
    · cases e : mc.kids[i.toNat]? with
      | none => simp; omega
      | some y => exact hg.kids mc (nd_pos h1).2.2.1 y (List.mem_of_getElem? e)
    · omega
  · rw [selF_no fun c hc => h ⟨c, hc⟩]; omega
theorem nextN_lt {g : Gr} (hg : Small g) {m : Nd} (hm : m ∈ g.nodes) : nextN g m < g.nodes.length := by
  unfold nextN
  split
  · omega
  · rename_i t l e
    have := hg.kids m hm t (by rw [e]; exact List.mem_cons_self)
    split
    · exact this
    split
    · omega
    split
    · omega
    · exact selF_lt hg m _ _
theorem nextF_lt {g : Gr} (hg : Small g) (k : Int) : nextF g k < g.nodes.length := by
  unfold nextF
  split
  · rename_i m h; exact nextN_lt hg (nd_pos h).2.2.1
  · omega
theorem nextF_con {g : Gr} {k : Int} {m : Nd} (h : nd g k = some m) (hc : m.kind = kCon) : nextF g k = -1 := by
  rw [nextF_at h, nextN]
  split
  · rfl
  · rw [if_neg (by rw [hc]; decide), if_pos (by rw [hc]; decide)]
theorem nextF_ind {g : Gr} {k t : Int} {l : List Int} {m : Nd} (h : nd g k = some m) (hc : m.kind = kInd) (hk : m.kids = t :: l) : nextF g k = t := by
  rw [nextF_at h, nextN, hk]
  exact if_pos hc
theorem nextF_sel {g : Gr} {k t i : Int} {l ns : List Int} {m : Nd} (h : nd g k = some m) (hc : m.kind = kSel) (hk : m.kids = t :: l) (hn : m.nons = i :: ns) : nextF g k = selF g m t i := by
  rw [nextF_at h, nextN, hk, hn]
  simp only
  rw [if_neg (by rw [hc]; decide), if_neg (by rw [hc]; decide)]
/-- One step nearer. -/
theorem ConH.next {g : Gr} {h : Nat} {k c : Int} (hc : ConH g h k c) : (k = c ∧ nextF g k = -1) ∨ ∃ h', h = h' + 1 ∧ 0 ≤ nextF g k ∧ ConH g h' (nextF g k) c := by
  cases hc with
  | con a b => exact .inl ⟨rfl, nextF_con a b⟩
  | ind a b c d => exact .inr ⟨_, rfl, by rw [nextF_ind a b c]; exact d.from.1, by rw [nextF_ind a b c]; exact d⟩
  | sel a b c d e f1 f2 f3 f4 =>
    have : nextF g k = _ := nextF_sel a b c d
    rw [selF_con ⟨_, e⟩ f1, if_pos f2, f3] at this
    exact .inr ⟨_, rfl, by rw [this]; exact f4.from.1, by rw [this]; exact f4⟩
theorem con_of_next {g : Gr} {k c : Int} (hn : 0 ≤ nextF g k) (hc : Con g (nextF g k) c) : Con g k c := by
  unfold nextF at hn hc
  cases h : nd g k with
  | none => rw [h] at hn; exact absurd hn (show ¬ (0 : Int) ≤ -1 by decide)
  | some m =>
    rw [h] at hn hc
    simp only at hn hc
    unfold nextN at hn hc
    cases hk : m.kids with
    | nil => rw [hk] at hn; exact absurd hn (show ¬ (0 : Int) ≤ -1 by decide)
    | cons t l =>
      rw [hk] at hn hc
      simp only at hn hc
      by_cases hi : m.kind = kInd
      · rw [if_pos hi] at hc
        obtain ⟨q, hc⟩ := hc
        exact ⟨_, .ind h hi hk hc⟩
      rw [if_neg hi] at hn hc
      by_cases hs : m.kind = kSel
      case neg => rw [if_pos hs] at hn; exact absurd hn (show ¬ (0 : Int) ≤ -1 by decide)
      rw [if_neg (fun e => e hs)] at hn hc
      cases hno : m.nons with
      | nil => rw [hno] at hn; exact absurd hn (show ¬ (0 : Int) ≤ -1 by decide)
      | cons i ns =>
        rw [hno] at hn hc
        simp only at hn hc
        by_cases hx : ∃ c1, Con g t c1
        · obtain ⟨c1, h1⟩ := hx
          obtain ⟨mc, e1, _⟩ := h1.end_
          rw [selF_con h1 e1] at hn hc
          by_cases hf : mc.info = m.info
          · rw [if_pos hf] at hn hc
            cases e2 : mc.kids[i.toNat]? with
            | none => rw [e2] at hn; exact absurd hn (show ¬ (0 : Int) ≤ -1 by decide)
            | some f =>
              rw [e2] at hc
              obtain ⟨a1, b1⟩ := h1
              obtain ⟨a2, b2⟩ := hc
              exact ⟨max a1 a2 + 1, .sel h hs hk hno (b1.mono (by omega)) e1 hf e2 (b2.mono (by omega))⟩
          · rw [if_neg hf] at hn; exact absurd hn (show ¬ (0 : Int) ≤ -1 by decide)
        · rw [selF_no fun c hc => hx ⟨c, hc⟩] at hn; exact absurd hn (show ¬ (0 : Int) ≤ -1 by decide)
/-- What lies on the way. -/
inductive Rch (g : Gr) : Int → Int → Prop
  | refl (x : Int) : Rch g x x
  | step {x y : Int} : 0 ≤ x → 0 ≤ nextF g x → Rch g (nextF g x) y → Rch g x y
theorem Rch.cases {g : Gr} {x y : Int} (h : Rch g x y) : x = y ∨ (0 ≤ x ∧ 0 ≤ nextF g x ∧ Rch g (nextF g x) y) := by
  cases h with
  | refl => exact .inl rfl
  | step a b c => exact .inr ⟨a, b, c⟩
theorem Rch.con {g : Gr} {x y : Int} (h : Rch g x y) : ∀ {n : Nat} {c : Int}, ConH g n x c → ConH g n y c := by
  induction h with
  | refl x => exact fun hc => hc
  | step h0 h1 _ ih =>
    intro n c hc
    rcases hc.next with ⟨_, e⟩ | ⟨n', rfl, _, e⟩
    · omega
    · exact ih (e.mono (by omega))
theorem Rch.back {g : Gr} {x y c : Int} (h : Rch g x y) (hc : Con g y c) : Con g x c := by
  induction h with
  | refl x => exact hc
  | step h0 h1 _ ih => exact con_of_next h1 (ih hc)
noncomputable def finN (g : Gr) (x : Int) : Int := endN (nextF g) g.nodes.length x
theorem finN_neg (g : Gr) {x : Int} (h : x < 0) : finN g x = x := endN_neg h
section
variable {g : Gr} (hg : Small g)
include hg
theorem finN_step {x : Int} (h0 : 0 ≤ x) (hx : x < g.nodes.length) (h : 0 ≤ nextF g x) : finN g x = finN g (nextF g x) := endN_step (fun k _ _ => nextF_lt hg k) h0 hx h
theorem Rch.fin {x y : Int} (h : Rch g x y) (hx : x < g.nodes.length) : finN g y = finN g x := by
  induction h with
  | refl x => rfl
  | step h0 h1 _ ih => rw [finN_step hg h0 hx h1]; exact ih (nextF_lt hg _)
theorem con_fin {n : Nat} : ∀ {k c : Int}, ConH g n k c → finN g k = c := by
  induction n using Nat.strongRecOn with
  | _ n ih =>
    intro k c hc
    have hr := hc.from
    rcases hc.next with ⟨rfl, e⟩ | ⟨n', rfl, h0, e⟩
    · exact endN_stop hr.1 (by omega) (by omega)
    · rw [finN_step hg hr.1 hr.2 h0]
      exact ih n' (by omega) e
end
/-- Further on the same way, or lost where one was. -/
def Fwd (g : Gr) (x x' : Int) : Prop := Rch g x x' ∨ (x' = -2 ∧ finN g x = -2)
theorem Fwd.fin {g : Gr} (hg : Small g) {x x' : Int} (h : Fwd g x x') (hx : x < g.nodes.length) : finN g x' = finN g x := by
  rcases h with h | ⟨rfl, h⟩
  · exact h.fin hg hx
  · rw [h]; exact finN_neg g (by decide)
theorem Fwd.neg {g : Gr} {x x' : Int} (h : Fwd g x x') (hx : x < 0) : x' = x := by
  rcases h with h | ⟨rfl, h⟩
  · cases h with
    | refl => rfl
    | step h0 _ _ => omega
  · rw [finN_neg g hx] at h; exact h.symm
/-- One graph is another one, with numbers further on. -/
structure Rel (g g' : Gr) : Prop where
  len : g'.nodes.length = g.nodes.length
  node : ∀ (k : Int) (m : Nd), nd g k = some m → ∃ m', nd g' k = some m' ∧ m'.kind = m.kind ∧ m'.info = m.info ∧ m'.nons = m.nons ∧ m'.kids.length = m.kids.length ∧ ∀ (i : Nat) (t t' : Int), m.kids[i]? = some t → m'.kids[i]? = some t' → Fwd g t t'
section
variable {g g' : Gr}
theorem Rel.back (h : Rel g g') {k : Int} {m' : Nd} (hk : nd g' k = some m') : ∃ m, nd g k = some m ∧ m'.kind = m.kind ∧ m'.info = m.info ∧ m'.nons = m.nons ∧ m'.kids.length = m.kids.length ∧ ∀ (i : Nat) (t t' : Int), m.kids[i]? = some t → m'.kids[i]? = some t' → Fwd g t t' := by
  have hp := nd_pos hk
  obtain ⟨m, hm⟩ := nd_some g hp.1 (by rw [← h.len]; exact hp.2.1)
  obtain ⟨m'', e, r⟩ := h.node k m hm
  rw [hk] at e
  cases e
  exact ⟨m, hm, r⟩
theorem kids_at {l l' : List Int} (h : l'.length = l.length) {i : Nat} {t : Int} (ht : l[i]? = some t) : ∃ t', l'[i]? = some t' := by
  have : i < l.length := by
    rcases Nat.lt_or_ge i l.length with h' | h'
    · exact h'
    · rw [List.getElem?_eq_none h'] at ht; cases ht
  exact ⟨_, List.getElem?_eq_getElem (by omega)⟩
theorem head_of {l : List Int} {t : Int} (h : l[0]? = some t) : ∃ r, l = t :: r := by
  cases l with
  | nil => cases h
  | cons a r => simp at h; subst h; exact ⟨r, rfl⟩
theorem Rel.con (h : Rel g g') (hg : Small g) : ∀ (n : Nat) {k c : Int}, ConH g n k c → Con g' k c := by
  intro n
  induction n using Nat.strongRecOn with
  | _ n ih =>
    intro k c hc
    have fw : ∀ {t t' c' : Int} {n' : Nat}, n' < n → ConH g n' t c' → Fwd g t t' → Con g' t' c' := by
      intro t t' c' n' hn ht hf
      rcases hf with hf | ⟨_, hf⟩
      · exact ih n' hn (hf.con ht)
      · rw [con_fin hg ht] at hf
        obtain ⟨_, e, _⟩ := ht.end_
        have := (nd_pos e).1
        omega
    cases hc with
    | con a b =>
      obtain ⟨m', e1, e2, _⟩ := h.node _ _ a
      exact ⟨0, .con e1 (e2.trans b)⟩
    | ind a b c d =>
      obtain ⟨m', e1, e2, e3, e4, e5, e6⟩ := h.node _ _ a
      have ht0 := congrArg (fun l : List Int => l[0]?) c
      simp only [List.getElem?_cons_zero] at ht0
      obtain ⟨t', ht'⟩ := kids_at e5 ht0
      obtain ⟨r, hr⟩ := head_of ht'
      obtain ⟨q, hq⟩ := fw (Nat.lt_succ_self _) d (e6 0 _ _ ht0 ht')
      exact ⟨q + 1, .ind e1 (e2.trans b) hr hq⟩
    | sel a b c d e f1 f2 f3 f4 =>
      obtain ⟨m', e1, e2, e3, e4, e5, e6⟩ := h.node _ _ a
      have ht0 := congrArg (fun l : List Int => l[0]?) c
      simp only [List.getElem?_cons_zero] at ht0
      obtain ⟨t', ht'⟩ := kids_at e5 ht0
      obtain ⟨r, hr⟩ := head_of ht'
      obtain ⟨q, hq⟩ := fw (Nat.lt_succ_self _) e (e6 0 _ _ ht0 ht')
      obtain ⟨mc', g1, g2, g3, g4, g5, g6⟩ := h.node _ _ f1
      obtain ⟨f', hf'⟩ := kids_at g5 f3
      obtain ⟨q2, hq2⟩ := fw (Nat.lt_succ_self _) f4 (g6 _ _ _ f3 hf')
      exact ⟨max q q2 + 1, .sel e1 (e2.trans b) hr (e4.trans d) (hq.mono (by omega)) g1 (by rw [g3, e3, f2]) hf' (hq2.mono (by omega))⟩
theorem Fwd.con {t t' c : Int} (hf : Fwd g t t') (h : Con g t' c) : Con g t c := by
  rcases hf with hf | ⟨rfl, _⟩
  · exact hf.back h
  · exact absurd h.from.1 (by decide)
theorem Rel.con_back (h : Rel g g') : ∀ (n : Nat) {k c : Int}, ConH g' n k c → Con g k c := by
  intro n
  induction n using Nat.strongRecOn with
  | _ n ih =>
    intro k c hc
    cases hc with
    | con a b =>
      obtain ⟨m, e1, e2, _⟩ := h.back a
      exact ⟨0, .con e1 (e2.symm.trans b)⟩
    | ind a b c d =>
      obtain ⟨m, e1, e2, e3, e4, e5, e6⟩ := h.back a
      have ht0 := congrArg (fun l : List Int => l[0]?) c
      simp only [List.getElem?_cons_zero] at ht0
      obtain ⟨t', ht'⟩ := kids_at e5.symm ht0
      obtain ⟨r, hr⟩ := head_of ht'
      obtain ⟨q, hq⟩ := (e6 0 _ _ ht' ht0).con (ih _ (Nat.lt_succ_self _) d)
      exact ⟨q + 1, .ind e1 (e2.symm.trans b) hr hq⟩
    | sel a b c d e f1 f2 f3 f4 =>
      obtain ⟨m, e1, e2, e3, e4, e5, e6⟩ := h.back a
      have ht0 := congrArg (fun l : List Int => l[0]?) c
      simp only [List.getElem?_cons_zero] at ht0
      obtain ⟨t', ht'⟩ := kids_at e5.symm ht0
      obtain ⟨r, hr⟩ := head_of ht'
      obtain ⟨q, hq⟩ := (e6 0 _ _ ht' ht0).con (ih _ (Nat.lt_succ_self _) e)
      obtain ⟨mc, g1, g2, g3, g4, g5, g6⟩ := h.back f1
      obtain ⟨f', hf'⟩ := kids_at g5.symm f3
      obtain ⟨q2, hq2⟩ := (g6 _ _ _ hf' f3).con (ih _ (Nat.lt_succ_self _) f4)
      exact ⟨max q q2 + 1, .sel e1 (e2.symm.trans b) hr (e4.symm.trans d) (hq.mono (by omega)) g1 (by rw [← g3, ← e3, f2]) hf' (hq2.mono (by omega))⟩
theorem fwd_refl (g : Gr) (x : Int) : Fwd g x x := .inl (.refl x)
theorem Rel.next (h : Rel g g') (hg : Small g) (k : Int) : Fwd g (nextF g k) (nextF g' k) := by
  cases hk : nd g k with
  | none =>
    have : nd g' k = none := by
      cases e : nd g' k with
      | none => rfl
      | some m' =>
        obtain ⟨m, e1, _⟩ := h.back e
        rw [hk] at e1; cases e1
    unfold nextF
    rw [hk, this]
    exact fwd_refl _ _
  | some m =>
    obtain ⟨m', e1, e2, e3, e4, e5, e6⟩ := h.node k m hk
    rw [nextF_at hk, nextF_at e1]
    unfold nextN
    cases hkd : m.kids with
    | nil =>
      have : m'.kids = [] := List.eq_nil_of_length_eq_zero (by rw [e5, hkd]; rfl)
      rw [this]
      exact fwd_refl _ _
    | cons t l =>
      have ht0 : m.kids[0]? = some t := by rw [hkd]; rfl
      obtain ⟨t', ht'⟩ := kids_at e5 ht0
      obtain ⟨r, hr⟩ := head_of ht'
      have hft := e6 0 _ _ ht0 ht'
      rw [hr]
      simp only [e2, e4]
      by_cases hi : m.kind = kInd
      · rw [if_pos hi, if_pos hi]; exact hft
      rw [if_neg hi, if_neg hi]
      by_cases hs : m.kind = kSel
      case neg => rw [if_pos hs, if_pos hs]; exact fwd_refl _ _
      rw [if_neg (fun e => e hs), if_neg (fun e => e hs)]
      cases hno : m.nons with
      | nil => exact fwd_refl _ _
      | cons i ns =>
        simp only
        by_cases hx : ∃ c, Con g t c
        · obtain ⟨c, hc⟩ := hx
          have hc' : Con g' t' c := by
            rcases hft with hft | ⟨_, hft⟩
            · obtain ⟨q, hq⟩ := hc
              exact h.con hg _ (hft.con hq)
            · obtain ⟨_, e, _⟩ := hc.end_
              obtain ⟨q, hq⟩ := hc
              rw [con_fin hg hq] at hft
              have := (nd_pos e).1
              omega
          obtain ⟨mc, g1, _⟩ := hc.end_
          obtain ⟨mc', k1, k2, k3, k4, k5, k6⟩ := h.node c mc g1
          rw [selF_con hc g1, selF_con hc' k1, k3, e3]
          split
          · cases hf : mc.kids[i.toNat]? with
            | none =>
              have : mc'.kids[i.toNat]? = none := by
                rw [List.getElem?_eq_none_iff] at hf ⊢
                omega
              rw [this]
              exact fwd_refl _ _
            | some f =>
              obtain ⟨f', hf'⟩ := kids_at k5 hf
              rw [hf']
              exact k6 _ _ _ hf hf'
          · exact fwd_refl _ _
        · rw [selF_no fun c hc => hx ⟨c, hc⟩, selF_no fun c hc => hx ⟨c, hft.con (by obtain ⟨q, hq⟩ := hc; exact h.con_back _ hq)⟩]
          exact fwd_refl _ _
theorem Rel.fin (h : Rel g g') (hg : Small g) (hg' : Small g') {k : Int} (hk : k < g.nodes.length) : finN g' k = finN g k := by
  by_cases h0 : k < 0
  · rw [finN_neg g h0, finN_neg g' h0]
  have hn : ∀ k : Int, 0 ≤ k → k < g.nodes.length → nextF g k < g.nodes.length := fun k _ _ => nextF_lt hg k
  have hn' : ∀ k : Int, 0 ≤ k → k < g'.nodes.length → nextF g' k < g'.nodes.length := fun k _ _ => nextF_lt hg' k
  have fwd : ∀ (d : Nat) (k t : Int), k < g.nodes.length → ToD (nextF g) d k t → ∃ d', ToD (nextF g') d' k t := by
    intro d
    induction d using Nat.strongRecOn with
    | _ d ih =>
      intro k t hk hd
      have hf := h.next hg k
      cases hd with
      | stop a b c => exact ⟨0, by
          have e := hf.neg b
          have := ToD.stop (nx := nextF g') a (by rw [e]; exact b) (by rw [e]; exact c)
          exact this⟩
      | lost a b => exact ⟨0, .lost a (by rw [hf.neg (by omega)]; exact b)⟩
      | step a b c =>
        rcases hf with hf | ⟨e1, e2⟩
        · have key : ∀ {x y : Int}, Rch g x y → ∀ {d : Nat} {t : Int}, ToD (nextF g) d x t → ∃ d', d' ≤ d ∧ ToD (nextF g) d' y t := by
            intro x y hr
            induction hr with
            | refl x => exact fun hd => ⟨_, Nat.le_refl _, hd⟩
            | step r0 r1 _ ih2 =>
              intro d t hd
              cases hd with
              | stop _ b' _ => omega
              | lost _ b' => omega
              | step _ _ c' =>
                obtain ⟨d', h1, h2⟩ := ih2 c'
                exact ⟨d', by omega, h2⟩
          have hne : 0 ≤ nextF g' k := by
            obtain ⟨d', _, h2⟩ := key hf c
            exact h2.from
          obtain ⟨d', h1, h2⟩ := key hf c
          obtain ⟨d2, h3⟩ := ih d' (by omega) (nextF g' k) t (by rw [← h.len]; exact nextF_lt hg' k) h2
          exact ⟨d2 + 1, .step a hne h3⟩
        · have : t = -2 := by
            have := endN_of hn c (nextF_lt hg k)
            rw [← this]; exact e2
          subst this
          exact ⟨0, .lost a e1⟩
  have bwd : ∀ (d : Nat) (k t : Int), k < g.nodes.length → ToD (nextF g') d k t → finN g k = t := by
    intro d
    induction d with
    | zero =>
      intro k t hk hd
      have hf := h.next hg k
      cases hd with
      | stop a b c =>
        have e : nextF g k = nextF g' k := by
          rcases hf with hf | ⟨e1, e2⟩
          · rcases hf.cases with hf | ⟨r0, r1, r2⟩
            · exact hf
            · exfalso
              have key : ∀ {x y : Int}, Rch g x y → 0 ≤ x → 0 ≤ y := by
                intro x y hr
                induction hr with
                | refl => exact id
                | step _ r1 _ ih => exact fun _ => ih r1
              have := key r2 r1
              omega
          · exact absurd e1 c
        exact endN_stop a (by rw [e]; exact b) (by rw [e]; exact c)
      | lost a b =>
        rw [b] at hf
        by_cases h1 : nextF g k < 0
        · exact endN_lost a (hf.neg h1).symm
        · have := hf.fin hg (nextF_lt hg k)
          rw [finN_neg g (by decide)] at this
          rw [finN_step hg a hk (by omega)]
          exact this.symm
    | succ d ih =>
      intro k t hk hd
      cases hd with
      | step a b c =>
        have hf := h.next hg k
        have e := ih _ t (by rw [← h.len]; exact nextF_lt hg' k) c
        have h1 : 0 ≤ nextF g k := Classical.byContradiction fun hc => by
          have := hf.neg (by omega)
          omega
        rw [finN_step hg a hk h1, ← hf.fin hg (nextF_lt hg k)]
        exact e
  rcases endN_cases hn (k := k) (by omega) hk with ⟨d, hd⟩ | ⟨hno, he⟩
  · obtain ⟨d', hd'⟩ := fwd d k _ hk hd
    exact endN_of hn' hd' (by rw [h.len]; exact hk)
  · rcases endN_cases hn' (k := k) (by omega) (by rw [h.len]; exact hk) with ⟨d, hd⟩ | ⟨_, he'⟩
    · exact (bwd d k _ hk hd).symm
    · exact he'.trans he.symm
end
end Go.Proofs.Ythdbmbabfngakaa.G
