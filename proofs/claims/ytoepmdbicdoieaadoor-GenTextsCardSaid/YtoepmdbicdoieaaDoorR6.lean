/- Tokens that are joined are read as themselves, but for their places. -/
import Derived.Test.YtoepmdbicdoieaaDoorB8
import Derived.Test.YtoepmdbicdoieaaDoorR5
namespace Go.Proofs.YtoepmdbicdoieaaDoor.X
open Go Go.Eng Go.Proofs Go.Proofs.YtoepmdbicdoieaaDoor.T Go.Proofs.YtoepmdbicdoieaaDoor.K
set_option linter.unusedSimpArgs false
set_option linter.unusedVariables false
theorem bapp_nil (s : ByteArray) : s ++ (⟨#[]⟩ : ByteArray) = s := ByteArray.append_empty
theorem bnil_app (s : ByteArray) : (⟨#[]⟩ : ByteArray) ++ s = s := ByteArray.empty_append
abbrev I64' (n : Int) : Prop := -9223372036854775808 ≤ n ∧ n ≤ 9223372036854775807
theorem ch_left (p r : ByteArray) {i : Nat} (h : i < p.size) : ch (p ++ r) i = ch p i := by
  have hs : p.size = p.data.size := rfl
  unfold ch
  rw [ByteArray.data_append, Array.getD_eq_getD_getElem?, Array.getD_eq_getD_getElem?, Array.getElem?_append_left (by omega)]
theorem ch_right (p r : ByteArray) (i : Nat) : ch (p ++ r) (p.size + i) = ch r i := by
  have hs : p.size = p.data.size := rfl
  unfold ch
  rw [ByteArray.data_append, Array.getD_eq_getD_getElem?, Array.getD_eq_getD_getElem?, Array.getElem?_append_right (by omega), hs, Nat.add_sub_cancel_left]
theorem dgt_ch (u : Nat) : ch (dgt u) 0 = 48 + ((u % 10 : Nat) : Int) := by
  have h : (UInt8.ofNat (48 + u % 10)).toNat = 48 + u % 10 := by rw [UInt8.toNat_ofNat']; omega
  show (((UInt8.ofNat (48 + u % 10)).toNat : Nat) : Int) = _
  rw [h]; omega
theorem decE_app (u : Nat) : ∀ acc, decE u acc = decE u ⟨#[]⟩ ++ acc := by
  induction u using Nat.strongRecOn with
  | ind u ih =>
    intro acc
    rw [decE_eq u acc, decE_eq u ⟨#[]⟩, bapp_nil]
    split
    · rfl
    · rw [ih (u / 10) (by omega) (dgt u ++ acc), ih (u / 10) (by omega) (dgt u), ByteArray.append_assoc]
theorem decE_pos (u : Nat) : 0 < (decE u ⟨#[]⟩).size := by
  have e1 : (dgt u).size = 1 := rfl
  rw [decE_eq, bapp_nil]
  split
  · rw [e1]; decide
  · rw [decE_app, ByteArray.size_append]; omega
theorem decE_digit (u : Nat) : ∀ i, i < (decE u ⟨#[]⟩).size → digitB (ch (decE u ⟨#[]⟩) i) = true := by
  induction u using Nat.strongRecOn with
  | ind u ih =>
    intro i hi
    have e1 : (dgt u).size = 1 := rfl
    have hd : ∀ j, j < 1 → digitB (ch (dgt u) j) = true := fun j hj => by
      obtain rfl : j = 0 := by omega
      rw [dgt_ch]; simp only [digitB, Bool.and_eq_true, decide_eq_true_eq]; omega
    rw [decE_eq, bapp_nil] at hi ⊢
    split at hi
    · rename_i h; rw [if_pos h]; exact hd i (by omega)
    · rename_i h
      rw [if_neg h]
      rw [decE_app] at hi ⊢
      rw [ByteArray.size_append] at hi
      rcases Nat.lt_or_ge i (decE (u / 10) ⟨#[]⟩).size with g | g
      · rw [ch_left _ _ g]; exact ih _ (by omega) i g
      · obtain ⟨k, rfl⟩ : ∃ k, i = (decE (u / 10) ⟨#[]⟩).size + k := ⟨i - (decE (u / 10) ⟨#[]⟩).size, by omega⟩
        rw [ch_right]; exact hd k (by omega)
theorem num_dec (u : Nat) : ∀ (p acc : ByteArray), u ≤ 9223372036854775808 → numE (p ++ (decE u ⟨#[]⟩ ++ acc)) p.size 0 = numE (p ++ (decE u ⟨#[]⟩ ++ acc)) (p.size + (decE u ⟨#[]⟩).size) u := by
  induction u using Nat.strongRecOn with
  | ind u ih =>
    intro p acc hu
    have e1 : (dgt u).size = 1 := rfl
    have step : ∀ (q acc : ByteArray) (x : Int), x * 10 + ((u % 10 : Nat) : Int) = u → numE (q ++ (dgt u ++ acc)) q.size x = numE (q ++ (dgt u ++ acc)) (q.size + 1) u := by
      intro q acc x hx
      have hc : ch (q ++ (dgt u ++ acc)) q.size = 48 + ((u % 10 : Nat) : Int) := by
        have := ch_right q (dgt u ++ acc) 0
        rw [Nat.add_zero] at this
        rw [this, ch_left _ _ (by rw [e1]; decide), dgt_ch]
      rw [numE_eq, if_pos (by rw [ByteArray.size_append, ByteArray.size_append, e1]; omega), hc, show x * 10 + (48 + ((u % 10 : Nat) : Int) - 48) = u by omega, if_neg (by omega)]
    by_cases h : u / 10 = 0
    · have ed : decE u ⟨#[]⟩ = dgt u := by rw [decE_eq, if_pos h, bapp_nil]
      rw [ed, e1]
      exact step p acc 0 (by omega)
    · have ed : decE u ⟨#[]⟩ = decE (u / 10) ⟨#[]⟩ ++ dgt u := by rw [decE_eq, if_neg h, bapp_nil, decE_app]
      have hi := ih (u / 10) (by omega) p (dgt u ++ acc) (by omega)
      have hs := step (p ++ decE (u / 10) ⟨#[]⟩) acc ((u / 10 : Nat) : Int) (by omega)
      rw [ed, ByteArray.append_assoc, hi]
      rw [ByteArray.append_assoc, ByteArray.size_append] at hs
      rw [hs, ByteArray.size_append, e1, Nat.add_assoc]
theorem ch0_dec (u : Nat) (acc : ByteArray) : digitB (ch (decE u ⟨#[]⟩ ++ acc) 0) = true := by
  rw [ch_left _ _ (decE_pos u)]; exact decE_digit u 0 (decE_pos u)
theorem numP_range (s : ByteArray) : ∀ (n i : Nat) (x y : Int), (∀ k, i ≤ k → k < s.size → digitB (ch s k) = true) → 0 ≤ x → x ≤ 9223372036854775808 → numP s n i x = some y → 0 ≤ y ∧ y ≤ 9223372036854775808
  | 0, i, x, y, hd, h0, h1, h => by
    simp only [numP, Option.some.injEq] at h
    omega
  | n + 1, i, x, y, hd, h0, h1, h => by
    simp only [numP] at h
    split at h
    · rename_i hi
      have hdi : 48 ≤ ch s i ∧ ch s i ≤ 57 := by simpa [digitB] using hd i (Nat.le_refl _) hi
      split at h
      · cases h
      · exact numP_range s n (i + 1) _ y (fun k h2 h3 => hd k (by omega) h3) (by omega) (by omega) h
    · simp only [Option.some.injEq] at h
      omega
theorem int_digits {n : Int} (hn : I64' n) : intOf (digitsP n) = some n := by
  have hu : n.natAbs ≤ 9223372036854775808 := by unfold I64' at hn; omega
  have e45 : ByteArray.size { data := #[45] } = 1 := rfl
  unfold digitsP intOf
  by_cases h0 : n < 0
  · have hc : ch (⟨#[45]⟩ ++ decE n.natAbs ⟨#[]⟩) 0 = 45 := by rw [ch_left _ _ (by decide)]; rfl
    rw [if_pos h0, if_pos hc]
    have := num_dec n.natAbs ⟨#[45]⟩ ⟨#[]⟩ hu
    rw [bapp_nil, e45] at this
    rw [this, numE_eq, if_neg (by rw [ByteArray.size_append, e45]; omega)]
    simp only [Option.map_some, Option.some.injEq]
    omega
  · have hd := ch0_dec n.natAbs ⟨#[]⟩
    rw [bapp_nil] at hd
    have hc : ¬ ch (decE n.natAbs ⟨#[]⟩) 0 = 45 := fun e => by rw [e] at hd; exact absurd hd (by decide)
    rw [if_neg h0, if_neg hc]
    have := num_dec n.natAbs ⟨#[]⟩ ⟨#[]⟩ hu
    have ez : ByteArray.size { data := #[] } = 0 := rfl
    rw [bapp_nil, bnil_app, ez, Nat.zero_add] at this
    rw [this, numE_eq, if_neg (by omega)]
    unfold I64' at hn
    have h2 : ((n.natAbs : Nat) : Int) < 9223372036854775808 := by omega
    simp only [if_pos h2, Option.some.injEq]
    omega
/-- How digits begin, and go on. -/
theorem digits_form (n : Int) : 0 < (digitsP n).size ∧ (digitB (ch (digitsP n) 0) = true ∨ (ch (digitsP n) 0 = 45 ∧ 1 < (digitsP n).size ∧ digitB (ch (digitsP n) 1) = true)) ∧ ∀ i, 1 ≤ i → i < (digitsP n).size → digitB (ch (digitsP n) i) = true := by
  have hp := decE_pos n.natAbs
  have e45 : ByteArray.size { data := #[45] } = 1 := rfl
  unfold digitsP
  by_cases h0 : n < 0
  · rw [if_pos h0]
    have key : ∀ i, 1 ≤ i → i < (⟨#[45]⟩ ++ decE n.natAbs ⟨#[]⟩ : ByteArray).size → digitB (ch (⟨#[45]⟩ ++ decE n.natAbs ⟨#[]⟩) i) = true := fun i hi h => by
      rw [ByteArray.size_append, e45] at h
      obtain ⟨k, rfl⟩ : ∃ k, i = 1 + k := ⟨i - 1, by omega⟩
      have := ch_right ⟨#[45]⟩ (decE n.natAbs ⟨#[]⟩) k
      rw [e45] at this
      rw [this]; exact decE_digit _ k (by omega)
    have hs : 1 < (⟨#[45]⟩ ++ decE n.natAbs ⟨#[]⟩ : ByteArray).size := by rw [ByteArray.size_append, e45]; omega
    exact ⟨by omega, .inr ⟨by rw [ch_left _ _ (by decide)]; rfl, hs, key 1 (Nat.le_refl _) hs⟩, key⟩
  · rw [if_neg h0]
    exact ⟨hp, .inl (decE_digit _ 0 hp), fun i _ hi => decE_digit _ i hi⟩
/-- Tokens, each with a blank behind it. -/
def joinP : List Tok → ByteArray
  | [] => ⟨#[]⟩
  | t :: l => (textP t).1 ++ (⟨#[32]⟩ ++ joinP l)
theorem joinP_append : ∀ (l m : List Tok), joinP (l ++ m) = joinP l ++ joinP m
  | [], m => by rw [List.nil_append, joinP, bnil_app]
  | t :: l, m => by simp only [List.cons_append, joinP, joinP_append l m, ByteArray.append_assoc]
/-- What the lexer makes. -/
structure TokOk (t : Tok) : Prop where
  tx : t.k = 4 → t.tx = ⟨#[]⟩
  n : ¬ t.k = 4 → t.n = 0
  i64 : I64' t.n
theorem ok0 {k : Int} {tx : ByteArray} {a : Int} (h : ¬ k = 4) : TokOk ⟨k, tx, 0, a⟩ := ⟨fun e => absurd e h, fun _ => rfl, show I64' 0 by decide⟩
theorem oneP_ok {s : ByteArray} {a : Nat} (ha : a < s.size) : (oneP s a).2.2 = 0 → TokOk (oneP s a).1 := by
  intro he
  unfold oneP at he ⊢
  by_cases c1 : smallB (ch s a) = true
  · rw [if_pos c1]; split <;> exact ok0 (by decide)
  rw [if_neg c1] at he ⊢
  by_cases c2 : largeB (ch s a) = true
  · rw [if_pos c2]; exact ok0 (by decide)
  rw [if_neg c2] at he ⊢
  by_cases c3 : ch s a = 35 ∧ smallB (nxt s a) = true
  · rw [if_pos c3]; exact ok0 (by decide)
  rw [if_neg c3] at he ⊢
  by_cases c4 : digitB (ch s a) = true ∨ (ch s a = 45 ∧ digitB (nxt s a) = true)
  · rw [if_pos c4] at he ⊢
    cases hi : intOf (s.extract a (digE s (a + 1))) with
    | none => rw [hi] at he; exact absurd (show (22 : Int) = 0 from he) (by decide)
    | some m =>
      refine ⟨fun _ => rfl, fun h => absurd rfl h, ?_⟩
      have hpre := int_pre ha (c4.elim .inl fun h => .inr h.1)
      generalize s.extract a (digE s (a + 1)) = w at hi hpre
      unfold intOf at hi
      split at hi
      · rename_i h45
        cases hn : numE w 1 0 with
        | none => rw [hn] at hi; cases hi
        | some y =>
          rw [hn] at hi
          simp only [Option.map_some, Option.some.injEq] at hi
          have := numP_range w _ 1 0 y (fun k h1 h2 => hpre k h2 (.inl (by omega))) (by omega) (by omega) hn
          show I64' m
          omega
      · rename_i h45
        split at hi
        · rename_i x hx
          split at hi
          · cases hi
            have := numP_range w _ 0 0 m (fun k h1 h2 => hpre k h2 (.inr h45)) (by omega) (by omega) hx
            show I64' m
            omega
          · cases hi
        · cases hi
  rw [if_neg c4] at he ⊢
  by_cases c5 : ch s a = 45 ∧ nxt s a = 62
  · rw [if_pos c5]; exact ok0 (by decide)
  rw [if_neg c5] at he ⊢
  by_cases c6 : signB (s.extract a (a + 1)) = true
  · rw [if_pos c6]; exact ok0 (by decide)
  · rw [if_neg c6] at he; exact absurd (show (20 : Int) = 0 from he) (by decide)
theorem scanE_ok (s : ByteArray) : ∀ n a l, n = s.size - a → (∀ t ∈ l, TokOk t) → ∀ t ∈ (scanE s a l).1, TokOk t
  | n, a, l, hn, hl => by
    rw [scanE_eq]
    by_cases h : a < s.size
    · rw [if_pos h]
      by_cases he : (oneP s a).2.2 = 0
      · rw [if_neg (show ¬ ¬ (oneP s a).2.2 = 0 from fun k => k he)]
        split
        · intro t ht; cases ht
        · have := next_lt h he
          refine scanE_ok s (s.size - skipE s (oneP s a).2.1.toNat) _ _ rfl fun t ht => ?_
          rcases List.mem_append.1 ht with g | g
          · exact hl t g
          · rw [List.mem_singleton.1 g]; exact oneP_ok h he
      · rw [if_pos he]; intro t ht; cases ht
    · rw [if_neg h]; exact hl
  termination_by n a l => s.size - a
theorem scan_ok (s : ByteArray) : ∀ t ∈ (scanAll s).1, TokOk t := by
  unfold scanAll
  split
  · intro t ht; cases ht
  · exact scanE_ok s _ _ _ rfl fun _ h => nomatch h
/-- A text stands at a place, with a blank behind it. -/
structure At (J w : ByteArray) (a : Nat) : Prop where
  size : a + w.size < J.size
  chs : ∀ i, i < w.size → ch J (a + i) = ch w i
  blank : ch J (a + w.size) = 32
  ext : ∀ i, i ≤ w.size → J.extract a (a + i) = w.extract 0 i
theorem at_of (p w r : ByteArray) : At (p ++ (w ++ (⟨#[32]⟩ ++ r))) w p.size := by
  have e1 : ByteArray.size { data := #[32] } = 1 := rfl
  refine ⟨by simp only [ByteArray.size_append, e1]; omega, fun i hi => by rw [ch_right, ch_left _ _ hi], ?_, fun i hi => ?_⟩
  · rw [ch_right]
    have := ch_right w (⟨#[32]⟩ ++ r) 0
    rw [Nat.add_zero] at this
    rw [this, ch_left _ _ (by decide)]; rfl
  · have := ByteArray.extract_append_size_add (a := p) (b := w ++ (⟨#[32]⟩ ++ r)) (i := 0) (j := i)
    rw [Nat.add_zero] at this
    rw [this, ByteArray.extract_append, show i - w.size = 0 by omega, show 0 - w.size = 0 by omega]
    rw [show (⟨#[32]⟩ ++ r : ByteArray).extract 0 0 = ⟨#[]⟩ from ByteArray.extract_same, bapp_nil]
section
variable {J w : ByteArray} {a : Nat}
theorem At.all (h : At J w a) : J.extract a (a + w.size) = w := by rw [h.ext _ (Nat.le_refl _), ByteArray.extract_zero_size]
theorem At.run (h : At J w a) : ∀ n i, n = w.size - i → i ≤ w.size → (∀ k, i ≤ k → k < w.size → wordB (ch w k) = true) → runE J (a + i) = a + w.size
  | n, i, hn, hi, hw => by
    have hs := h.size
    rw [runE_eq]
    rcases Nat.lt_or_ge i w.size with g | g
    · rw [if_pos ⟨by omega, by rw [h.chs i g]; exact hw i (Nat.le_refl _) g⟩, Nat.add_assoc]
      exact h.run (w.size - (i + 1)) (i + 1) rfl g fun k h1 h2 => hw k (by omega) h2
    · obtain rfl : i = w.size := by omega
      rw [if_neg (fun c => by rw [h.blank] at c; exact absurd c.2 (by decide))]
  termination_by n i => w.size - i
theorem At.dig (h : At J w a) : ∀ n i, n = w.size - i → i ≤ w.size → (∀ k, i ≤ k → k < w.size → digitB (ch w k) = true) → digE J (a + i) = a + w.size
  | n, i, hn, hi, hw => by
    have hs := h.size
    rw [digE_eq]
    rcases Nat.lt_or_ge i w.size with g | g
    · rw [if_pos ⟨by omega, by rw [h.chs i g]; exact hw i (Nat.le_refl _) g⟩, Nat.add_assoc]
      exact h.dig (w.size - (i + 1)) (i + 1) rfl g fun k h1 h2 => hw k (by omega) h2
    · obtain rfl : i = w.size := by omega
      rw [if_neg (fun c => by rw [h.blank] at c; exact absurd c.2 (by decide))]
  termination_by n i => w.size - i
theorem At.ch0 (h : At J w a) (hp : 0 < w.size) : ch J a = ch w 0 := h.chs 0 hp
theorem At.nxt1 (h : At J w a) : nxt J a = if 1 < w.size then ch w 1 else (if w.size = 1 then 32 else nxt J a) := by
  have hs := h.size
  split
  · rename_i g
    unfold nxt; rw [if_pos (by omega)]; exact h.chs 1 g
  · split
    · rename_i g
      unfold nxt; rw [if_pos (by omega)]
      have := h.blank
      rw [g] at this; exact this
    · rfl
end
/-- Words: how they begin, and go on. -/
theorem word_facts {s : ByteArray} {k : Int} (h : WordP s k) : 0 < s.size ∧ ((k = 1 ∧ smallB (ch s 0) = true ∧ reservedB s = false ∧ ∀ i, 0 ≤ i → i < s.size → wordB (ch s i) = true) ∨ (k = 2 ∧ smallB (ch s 0) = false ∧ largeB (ch s 0) = true ∧ ∀ i, 0 ≤ i → i < s.size → wordB (ch s i) = true) ∨ (k = 3 ∧ ch s 0 = 35 ∧ 1 < s.size ∧ smallB (ch s 1) = true ∧ ∀ i, 1 ≤ i → i < s.size → wordB (ch s i) = true)) := by
  obtain ⟨h0, _, hk, h1, h2, h3⟩ := h
  have hpos : 0 < s.size := by
    rcases Nat.eq_zero_or_pos s.size with e | e
    · exact absurd (ByteArray.size_eq_zero_iff.1 e) h0
    · exact e
  refine ⟨hpos, ?_⟩
  have hrun : ∀ n i, n = s.size - i → i ≤ s.size → runE s i = s.size → ∀ k, i ≤ k → k < s.size → wordB (ch s k) = true := by
    intro n
    induction n with
    | zero => intro i hn hi hr k h4 h5; omega
    | succ n ih =>
      intro i hn hi hr k h4 h5
      rw [runE_eq] at hr
      split at hr
      · rename_i hc
        rcases Nat.eq_or_lt_of_le h4 with rfl | g
        · exact hc.2
        · exact ih (i + 1) (by omega) hc.1 hr k g h5
      · omega
  unfold oneP at h1 h2 h3
  by_cases c1 : smallB (ch s 0) = true
  · rw [if_pos c1] at h1 h2 h3
    have h3' : ((runE s 0 : Nat) : Int) = s.size := by split at h3 <;> exact h3
    have hr : runE s 0 = s.size := by omega
    cases hres : reservedB (s.extract 0 (runE s 0)) with
    | true => rw [hres, if_pos rfl] at h2; have : (6 : Int) = k := h2; omega
    | false =>
      rw [hres, if_neg (by decide)] at h2
      have : (1 : Int) = k := h2
      rw [hr, ByteArray.extract_zero_size] at hres
      exact .inl ⟨this.symm, c1, hres, hrun _ 0 rfl (Nat.zero_le _) hr⟩
  rw [if_neg c1] at h1 h2 h3
  by_cases c2 : largeB (ch s 0) = true
  · rw [if_pos c2] at h2 h3
    have : (2 : Int) = k := h2
    have h3' : ((runE s 0 : Nat) : Int) = s.size := h3
    exact .inr (.inl ⟨this.symm, by simpa using c1, c2, hrun _ 0 rfl (Nat.zero_le _) (by omega)⟩)
  rw [if_neg c2] at h1 h2 h3
  by_cases c3 : ch s 0 = 35 ∧ smallB (nxt s 0) = true
  · rw [if_pos c3] at h2 h3
    have : (3 : Int) = k := h2
    have h3' : ((runE s 1 : Nat) : Int) = s.size := h3
    have hs1 : 1 < s.size := by
      have := c3.2
      unfold nxt at this
      split at this
      · omega
      · exact absurd this (by decide)
    have hn : nxt s 0 = ch s 1 := by unfold nxt; rw [if_pos (by omega)]
    exact .inr (.inr ⟨this.symm, c3.1, hs1, by rw [← hn]; exact c3.2, hrun _ 1 rfl (by omega) (by omega)⟩)
  rw [if_neg c3] at h1 h2 h3
  by_cases c4 : digitB (ch s 0) = true ∨ (ch s 0 = 45 ∧ digitB (nxt s 0) = true)
  · rw [if_pos c4] at h2
    cases hi : intOf (s.extract 0 (digE s (0 + 1))) with
    | some m => rw [hi] at h2; have : (4 : Int) = k := h2; omega
    | none => rw [hi] at h2; have : (0 : Int) = k := h2; omega
  rw [if_neg c4] at h1 h2
  by_cases c5 : ch s 0 = 45 ∧ nxt s 0 = 62
  · rw [if_pos c5] at h2; have : (5 : Int) = k := h2; omega
  rw [if_neg c5] at h1 h2
  by_cases c6 : signB (s.extract 0 (0 + 1)) = true
  · rw [if_pos c6] at h2; have : (5 : Int) = k := h2; omega
  · rw [if_neg c6] at h1; exact absurd (show (20 : Int) = 0 from h1) (by decide)
def allB (p : Int → Bool) (s : ByteArray) : Bool := (List.range s.size).all fun i => p (ch s i)
theorem allB_at {p : Int → Bool} {s : ByteArray} (h : allB p s = true) {i : Nat} (hi : i < s.size) : p (ch s i) = true := List.all_eq_true.1 h i (List.mem_range.2 hi)
theorem res_facts {s : ByteArray} (h : reservedB s = true) : 0 < s.size ∧ s.size ≤ 32 ∧ smallB (ch s 0) = true ∧ allB wordB s = true := by
  have : ∀ x ∈ reservedL, 0 < x.size ∧ x.size ≤ 32 ∧ smallB (ch x 0) = true ∧ allB wordB x = true := by decide
  unfold reservedB at h
  obtain ⟨x, hx, hs⟩ := List.any_eq_true.1 h
  rw [of_decide_eq_true hs]; exact this x hx
theorem sign_facts {s : ByteArray} (h : signB s = true) : s.size ≤ 32 ∧ (s = arrow ∨ (s.size = 1 ∧ smallB (ch s 0) = false ∧ largeB (ch s 0) = false ∧ ¬ ch s 0 = 35 ∧ digitB (ch s 0) = false ∧ ¬ ch s 0 = 45 ∧ blankB (ch s 0) = false)) := by
  have : ∀ x ∈ signL, x.size ≤ 32 ∧ (x = arrow ∨ (x.size = 1 ∧ smallB (ch x 0) = false ∧ largeB (ch x 0) = false ∧ ¬ ch x 0 = 35 ∧ digitB (ch x 0) = false ∧ ¬ ch x 0 = 45 ∧ blankB (ch x 0) = false)) := by decide
  unfold signB at h
  obtain ⟨x, hx, hs⟩ := List.any_eq_true.1 h
  rw [of_decide_eq_true hs]; exact this x hx
theorem arrow_facts : arrow.size = 2 ∧ ch arrow 0 = 45 ∧ ch arrow 1 = 62 := by decide
/-- A token's text, at a place: it is read as the token. -/
theorem one_at {J : ByteArray} {a : Nat} {t : Tok} (hok : TokOk t) (hx : t.tx.size ≤ 32) (ht : (textP t).2 = true) (h : At J (textP t).1 a) :
    0 < (textP t).1.size ∧ blankB (ch J a) = false ∧ ¬ (ch J a = 45 ∧ nxt J a = 45) ∧ (oneP J a).2.2 = 0 ∧ (oneP J a).2.1 = ((a + (textP t).1.size : Nat) : Int) ∧ erT (oneP J a).1 = erT t ∧ (oneP J a).1.tx.size ≤ 32 := by
  have hblank : ∀ c : Int, (smallB c = true ∨ largeB c = true ∨ c = 35 ∨ digitB c = true ∨ c = 45) → blankB c = false := by
    intro c hc
    simp only [smallB, largeB, digitB, Bool.and_eq_true, decide_eq_true_eq] at hc
    simp only [blankB, Bool.or_eq_false_iff, decide_eq_false_iff_not]
    omega
  have hsm : ∀ c : Int, smallB c = true → ¬ c = 45 := by intro c hc; simp only [smallB, Bool.and_eq_true, decide_eq_true_eq] at hc; omega
  have hlg : ∀ c : Int, largeB c = true → ¬ c = 45 := by intro c hc; simp only [largeB, Bool.and_eq_true, decide_eq_true_eq] at hc; omega
  have hdg : ∀ c : Int, digitB c = true → ¬ c = 45 ∧ smallB c = false ∧ largeB c = false ∧ ¬ c = 35 := by
    intro c hc
    simp only [digitB, Bool.and_eq_true, decide_eq_true_eq] at hc
    simp only [smallB, largeB, Bool.and_eq_false_iff, decide_eq_false_iff_not]
    omega
  obtain ⟨k, tx, n, at_⟩ := t
  have ho1 := hok.tx
  have ho2 := hok.n
  dsimp only at ho1 ho2 hx
  unfold textP at ht h ⊢
  dsimp only at ht h ⊢
  by_cases w1 : k = 1 ∨ k = 2 ∨ k = 3
  · rw [if_pos w1] at ht h ⊢
    dsimp only at ht h ⊢
    obtain ⟨hpos, hw⟩ := word_facts (of_decide_eq_true ht)
    have hn0 : n = 0 := ho2 (by omega)
    have hc0 := h.ch0 hpos
    rcases hw with ⟨rfl, c1, hres, hall⟩ | ⟨rfl, c1, c2, hall⟩ | ⟨rfl, c1, hs1, c2, hall⟩
    · have hr := h.run _ 0 rfl (Nat.zero_le _) hall
      rw [Nat.add_zero] at hr
      have e : oneP J a = (⟨1, tx, 0, a⟩, ((a + tx.size : Nat) : Int), 0) := by
        unfold oneP
        rw [if_pos (by rw [hc0]; exact c1), hr, h.all, if_neg (by rw [hres]; decide)]
      rw [e]
      exact ⟨hpos, hblank _ (by rw [hc0]; exact .inl c1), fun q => hsm _ (by rw [hc0]; exact c1) q.1, rfl, rfl, by rw [hn0]; rfl, hx⟩
    · have hr := h.run _ 0 rfl (Nat.zero_le _) hall
      rw [Nat.add_zero] at hr
      have e : oneP J a = (⟨2, tx, 0, a⟩, ((a + tx.size : Nat) : Int), 0) := by
        unfold oneP
        rw [if_neg (by rw [hc0, c1]; decide), if_pos (by rw [hc0]; exact c2), hr, h.all]
      rw [e]
      exact ⟨hpos, hblank _ (by rw [hc0]; exact .inr (.inl c2)), fun q => hlg _ (by rw [hc0]; exact c2) q.1, rfl, rfl, by rw [hn0]; rfl, hx⟩
    · have hr := h.run _ 1 rfl (by omega) hall
      have hn1 := h.nxt1
      rw [if_pos hs1] at hn1
      have e : oneP J a = (⟨3, tx, 0, a⟩, ((a + tx.size : Nat) : Int), 0) := by
        unfold oneP
        rw [if_neg (by rw [hc0, c1]; decide), if_neg (by rw [hc0, c1]; decide), if_pos ⟨by rw [hc0]; exact c1, by rw [hn1]; exact c2⟩, hr, h.all]
      rw [e]
      exact ⟨hpos, hblank _ (by rw [hc0]; exact .inr (.inr (.inl c1))), fun q => by rw [hc0, c1] at q; exact absurd q.1 (by decide), rfl, rfl, by rw [hn0]; rfl, hx⟩
  rw [if_neg w1] at ht h ⊢
  by_cases w6 : k = 6
  · rw [if_pos w6] at ht h ⊢
    dsimp only at ht h ⊢
    obtain ⟨hpos, _, c1, hall⟩ := res_facts ht
    have hn0 : n = 0 := ho2 (by omega)
    have hc0 := h.ch0 hpos
    have hr := h.run _ 0 rfl (Nat.zero_le _) fun i _ hi => allB_at hall hi
    rw [Nat.add_zero] at hr
    have e : oneP J a = (⟨6, tx, 0, a⟩, ((a + tx.size : Nat) : Int), 0) := by
      unfold oneP
      rw [if_pos (by rw [hc0]; exact c1), hr, h.all, if_pos ht]
    rw [e]
    exact ⟨hpos, hblank _ (by rw [hc0]; exact .inl c1), fun q => hsm _ (by rw [hc0]; exact c1) q.1, rfl, rfl, by rw [hn0, w6]; rfl, hx⟩
  rw [if_neg w6] at ht h ⊢
  by_cases w5 : k = 5
  · rw [if_pos w5] at ht h ⊢
    dsimp only at ht h ⊢
    have hn0 : n = 0 := ho2 (by omega)
    obtain ⟨_, rfl | ⟨hs1, c1, c2, c3, c4, c5, c6⟩⟩ := sign_facts ht
    · obtain ⟨hs2, hc45, hc62⟩ := arrow_facts
      have hc0 := h.ch0 (by rw [hs2]; decide)
      have hn1 := h.nxt1
      rw [if_pos (by rw [hs2]; decide)] at hn1
      have e : oneP J a = (⟨5, arrow, 0, a⟩, ((a + 2 : Nat) : Int), 0) := by
        unfold oneP
        rw [hc0, hn1, hc45, hc62]
        rfl
      rw [e]
      exact ⟨by rw [hs2]; decide, by rw [hc0, hc45]; rfl, fun q => by rw [hn1, hc62] at q; exact absurd q.2 (by decide), rfl, by rw [hs2], by rw [hn0, w5]; rfl, hx⟩
    · have hc0 := h.ch0 (by omega)
      have hall := h.all
      rw [hs1] at hall
      have e : oneP J a = (⟨5, tx, 0, a⟩, ((a + 1 : Nat) : Int), 0) := by
        unfold oneP
        rw [hc0, if_neg (by rw [c1]; decide), if_neg (by rw [c2]; decide), if_neg (fun q => c3 q.1), if_neg (fun q => q.elim (fun q => by rw [c4] at q; cases q) fun q => c5 q.1), if_neg (fun q => c5 q.1), hall, if_pos ht]
        rfl
      rw [e]
      exact ⟨by omega, by rw [hc0]; exact c6, fun q => by rw [hc0] at q; exact c5 q.1, rfl, by rw [hs1], by rw [hn0, w5]; rfl, hx⟩
  rw [if_neg w5] at ht h ⊢
  by_cases w4 : k = 4
  · rw [if_pos w4] at ht h ⊢
    dsimp only at ht h ⊢
    have htx : tx = ⟨#[]⟩ := ho1 w4
    obtain ⟨hpos, hfirst, hall⟩ := digits_form n
    have hc0 := h.ch0 hpos
    have hd := h.dig _ 1 rfl hpos hall
    have hint := int_digits hok.i64
    dsimp only at hint
    have hn1 := h.nxt1
    have hcond : digitB (ch J a) = true ∨ (ch J a = 45 ∧ digitB (nxt J a) = true) := by
      rw [hc0]
      rcases hfirst with q | ⟨q1, q2, q3⟩
      · exact .inl q
      · rw [if_pos q2] at hn1
        exact .inr ⟨q1, by rw [hn1]; exact q3⟩
    have e : oneP J a = (⟨4, ⟨#[]⟩, n, a⟩, ((a + (digitsP n).size : Nat) : Int), 0) := by
      have hns : ¬ smallB (ch J a) = true ∧ ¬ largeB (ch J a) = true ∧ ¬ ch J a = 35 := by
        rcases hcond with q | q
        · obtain ⟨_, q1, q2, q3⟩ := hdg _ q
          exact ⟨by rw [q1]; decide, by rw [q2]; decide, q3⟩
        · rw [q.1]; decide
      unfold oneP
      rw [if_neg hns.1, if_neg hns.2.1, if_neg (fun q => hns.2.2 q.1), if_pos hcond, hd, h.all, hint]
    rw [e]
    refine ⟨hpos, hblank _ ?_, fun q => ?_, rfl, rfl, by rw [w4, htx]; rfl, Nat.zero_le _⟩
    · rcases hcond with q | q
      · exact .inr (.inr (.inr (.inl q)))
      · exact .inr (.inr (.inr (.inr q.1)))
    · rcases hcond with g | g
      · exact (hdg _ g).1 q.1
      · rw [q.2] at g; exact absurd g.2 (by decide)
  rw [if_neg w4] at ht
  cases ht
/-- What stands next is no blank. -/
theorem skip_join (p : ByteArray) : ∀ (l : List Tok), (∀ t ∈ l, TokOk t ∧ t.tx.size ≤ 32 ∧ (textP t).2 = true) → skipE (p ++ joinP l) p.size = p.size
  | [], _ => by rw [joinP, bapp_nil, skipE_eq, if_neg (by omega)]
  | t :: l, h => by
    obtain ⟨h1, h2, h3⟩ := h t List.mem_cons_self
    have hat : At (p ++ joinP (t :: l)) (textP t).1 p.size := at_of p (textP t).1 (joinP l)
    obtain ⟨g0, g1, g2, _⟩ := one_at h1 h2 h3 hat
    rw [skipE_eq, if_pos (by have := hat.size; omega), if_neg (by rw [g1]; decide), if_neg (fun q => g2 ⟨q.1, by unfold nxt; rw [if_pos q.2.1]; exact q.2.2⟩)]
theorem scan_join : ∀ (l : List Tok) (p : ByteArray) (acc : List Tok), (∀ t ∈ l, TokOk t ∧ t.tx.size ≤ 32 ∧ (textP t).2 = true) → ∃ m, scanE (p ++ joinP l) p.size acc = (acc ++ m, 0, 0) ∧ m.map erT = l.map erT
  | [], p, acc, _ => ⟨[], by rw [joinP, bapp_nil, scanE_eq, if_neg (by omega), List.append_nil], rfl⟩
  | t :: l, p, acc, h => by
    obtain ⟨h1, h2, h3⟩ := h t List.mem_cons_self
    have hr : ∀ t ∈ l, TokOk t ∧ t.tx.size ≤ 32 ∧ (textP t).2 = true := fun x hx => h x (List.mem_cons_of_mem _ hx)
    have hat : At (p ++ joinP (t :: l)) (textP t).1 p.size := at_of p (textP t).1 (joinP l)
    obtain ⟨g0, g1, g2, g3, g4, g5, g6⟩ := one_at h1 h2 h3 hat
    have e1 : ByteArray.size { data := #[32] } = 1 := rfl
    have hsz := hat.size
    have hsk : skipE (p ++ joinP (t :: l)) (p.size + (textP t).1.size) = p.size + (textP t).1.size + 1 := by
      have hq := skip_join (p ++ (textP t).1 ++ ⟨#[32]⟩) l hr
      have hj : p ++ (textP t).1 ++ ⟨#[32]⟩ ++ joinP l = p ++ joinP (t :: l) := by simp only [joinP, ByteArray.append_assoc]
      rw [hj, ByteArray.size_append, ByteArray.size_append, e1] at hq
      rw [skipE_eq, if_pos hsz, if_pos (by have := hat.blank; rw [this]; rfl), hq]
    obtain ⟨m, hm1, hm2⟩ := scan_join l (p ++ (textP t).1 ++ ⟨#[32]⟩) (acc ++ [(oneP (p ++ joinP (t :: l)) p.size).1]) hr
    have hj : p ++ (textP t).1 ++ ⟨#[32]⟩ ++ joinP l = p ++ joinP (t :: l) := by simp only [joinP, ByteArray.append_assoc]
    rw [hj, ByteArray.size_append, ByteArray.size_append, e1] at hm1
    refine ⟨(oneP (p ++ joinP (t :: l)) p.size).1 :: m, ?_, by rw [List.map_cons, List.map_cons, hm2, show erT (oneP (p ++ joinP (t :: l)) p.size).1 = erT t from g5]⟩
    rw [scanE_eq, if_pos (show p.size < (p ++ joinP (t :: l)).size by omega), if_neg (show ¬ ¬ (oneP (p ++ joinP (t :: l)) p.size).2.2 = 0 from fun q => q g3), if_neg (show ¬ 32 < (oneP (p ++ joinP (t :: l)) p.size).1.tx.size from Nat.not_lt.2 g6)]
    rw [show (oneP (p ++ joinP (t :: l)) p.size).2.1 = ((p.size + (textP t).1.size : Nat) : Int) from g4, Int.toNat_natCast, hsk, hm1]
    simp
/-- Tokens that are joined are read as themselves, but for their places. -/
theorem scan_back {l : List Tok} (h : ∀ t ∈ l, TokOk t ∧ t.tx.size ≤ 32 ∧ (textP t).2 = true) (hs : (joinP l).size ≤ 16384) : (scanAll (joinP l)).2.2 = 0 ∧ (scanAll (joinP l)).1.map erT = l.map erT := by
  have h0 := skip_join ⟨#[]⟩ l h
  obtain ⟨m, h1, h2⟩ := scan_join l ⟨#[]⟩ [] h
  rw [bnil_app] at h0 h1
  have ez : ByteArray.size { data := #[] } = 0 := rfl
  rw [ez] at h0 h1
  unfold scanAll
  rw [if_neg (by omega), h0, h1]
  exact ⟨rfl, h2⟩
end Go.Proofs.YtoepmdbicdoieaaDoor.X
