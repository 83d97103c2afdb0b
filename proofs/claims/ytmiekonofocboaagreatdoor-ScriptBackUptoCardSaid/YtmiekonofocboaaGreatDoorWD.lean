/- Scripts as data; what a script is written as. -/
import Derived.Test.YtmiekonofocboaaGreatDoorWB
import Derived.Test.YtmiekonofocboaaGreatDoorWC
import Derived.Test.YtmiekonofocboaaGreatDoorXA
namespace Go.Proofs.YtmiekonofocboaaGreatDoor.Q
open Go Go.Eng Go.Lib Go.Proofs Go.Proofs.YtmiekonofocboaaGreatDoor.T Go.Proofs.YtmiekonofocboaaGreatDoor.K Go.Proofs.YtmiekonofocboaaGreatDoor.X
set_option linter.unusedSimpArgs false
set_option linter.unusedVariables false
set_option linter.unusedSectionVars false
def LineD.size (l : LineD) : Nat := l.name.size + l.nums.length + 8
structure ScrD where
  gens : Int
  steps : Int
  blocks : Int
  nursery : Int
  hops : Int
  words : Int
  text : ByteArray
  lines : List LineD
abbrev scrC (s : ScrD) (v : Value) : List Value := [.int .i64 s.gens, .int .i64 s.steps, .int .i64 s.blocks, .int .i64 s.nursery, .int .i64 s.hops, .int .i64 s.words, .string s.text, v]
def RScr (F : PH) (s : ScrD) (cs : List Value) : Prop := ∃ v, cs = scrC s v ∧ SlE F 8 (RLine F) v s.lines
structure ScrOk (s : ScrD) : Prop where
  gens : I64' s.gens
  steps : I64' s.steps
  blocks : I64' s.blocks
  nursery : I64' s.nursery
  hops : I64' s.hops
  words : I64' s.words
  text : s.text.size ≤ 1200000
  lines : ∀ l ∈ s.lines, LineOk l
  sum : sumOf LineD.size s.lines ≤ 1200000
theorem sum_len : ∀ (l : List LineD), l.length ≤ sumOf LineD.size l
  | [] => by simp
  | a :: l => by have := sum_len l; simp only [sumOf, LineD.size, List.length_cons]; omega
theorem sum_take (l : List LineD) (j : Nat) : sumOf LineD.size (l.take j) ≤ sumOf LineD.size l := by
  have := sumOf_append LineD.size (l.take j) (l.drop j)
  rw [List.take_append_drop] at this
  omega
/-- A program's parts, as a script holds them. -/
def partsT : List ByteArray → ByteArray
  | [] => ⟨#[]⟩
  | p :: l => ⟨#[124]⟩ ++ p ++ ⟨#[10]⟩ ++ partsT l
theorem partsT_append : ∀ (l m : List ByteArray), partsT (l ++ m) = partsT l ++ partsT m
  | [], m => by rw [List.nil_append, partsT, bnil_app]
  | t :: l, m => by simp only [List.cons_append, partsT, partsT_append l m, ByteArray.append_assoc]
theorem partsT_take (l : List ByteArray) {j : Nat} (h : j < l.length) : partsT (l.take (j + 1)) = partsT (l.take j) ++ ⟨#[124]⟩ ++ l[j] ++ ⟨#[10]⟩ := by
  rw [List.take_succ_eq_append_getElem h, partsT_append]; simp only [partsT, bapp_nil, ByteArray.append_assoc]
theorem partsT_size : ∀ (l : List ByteArray), (partsT l).size = sumOf ByteArray.size l + 2 * l.length
  | [] => rfl
  | p :: l => by
    have e1 : ByteArray.size { data := #[124] } = 1 := rfl
    have e2 : ByteArray.size { data := #[10] } = 1 := rfl
    simp only [partsT, ByteArray.size_append, e1, e2, sumOf, List.length_cons, partsT_size l]; omega
theorem sumB_take (l : List ByteArray) (j : Nat) : sumOf ByteArray.size (l.take j) ≤ sumOf ByteArray.size l := by
  have := sumOf_append ByteArray.size (l.take j) (l.drop j)
  rw [List.take_append_drop] at this
  omega
theorem splitF_sum (s : ByteArray) (c : Int) : ∀ n a i, a ≤ i → i ≤ s.size → sumOf ByteArray.size (splitF s c n a i) ≤ s.size - a
  | 0, a, i, h1, h2 => by simp only [splitF, sumOf, ByteArray.size_extract]; omega
  | n + 1, a, i, h1, h2 => by
    simp only [splitF]
    split
    · split
      · have := splitF_sum s c n (i + 1) (i + 1) (Nat.le_refl _) (by omega)
        simp only [sumOf, ByteArray.size_extract]; omega
      · exact splitF_sum s c n a (i + 1) (by omega) (by omega)
    · simp only [sumOf, ByteArray.size_extract]; omega
theorem splitP_sum (s : ByteArray) (c : Int) : sumOf ByteArray.size (splitP s c) ≤ s.size := splitF_sum s c _ 0 0 (Nat.le_refl _) (Nat.zero_le _)
def linesT : List LineD → ByteArray
  | [] => ⟨#[]⟩
  | l :: r => (lineT l).1 ++ linesT r
theorem linesT_append : ∀ (l m : List LineD), linesT (l ++ m) = linesT l ++ linesT m
  | [], m => by rw [List.nil_append, linesT, bnil_app]
  | t :: l, m => by simp only [List.cons_append, linesT, linesT_append l m, ByteArray.append_assoc]
theorem linesT_take (l : List LineD) {j : Nat} (h : j < l.length) : linesT (l.take (j + 1)) = linesT (l.take j) ++ (lineT l[j]).1 := by
  rw [List.take_succ_eq_append_getElem h, linesT_append]; simp only [linesT, bapp_nil]
theorem wordsT_size (w : ByteArray) (l : List Int) (h : ∀ n ∈ l, I64' n) : (wordsT w l).size ≤ w.size + 21 * l.length + 1 := by
  have := numsT_size l h
  have e2 : ByteArray.size { data := #[10] } = 1 := rfl
  unfold wordsT
  rw [ByteArray.size_append, ByteArray.size_append, e2]; omega
theorem lineT_size (l : LineD) (h : LineOk l) : (lineT l).1.size ≤ 40 * l.size := by
  have e0 : ByteArray.size { data := #[] } = 0 := rfl
  have e1 : ByteArray.size { data := #[109, 97, 107, 101, 32] } = 5 := rfl
  have e2 : ByteArray.size { data := #[115, 104, 111, 119] } = 4 := rfl
  have e3 : ByteArray.size { data := #[97, 116] } = 2 := rfl
  have e4 : ByteArray.size { data := #[100, 114, 111, 112] } = 4 := rfl
  have e5 : ByteArray.size { data := #[99, 111, 108, 108, 101, 99, 116] } = 7 := rfl
  have e6 : ByteArray.size { data := #[111, 117, 116] } = 3 := rfl
  unfold lineT LineD.size
  split
  · have := wordsT_size (⟨#[109, 97, 107, 101, 32]⟩ ++ l.name) l.nums h.nums
    rw [ByteArray.size_append, e1] at this
    dsimp only; omega
  split
  · have := wordsT_size ⟨#[115, 104, 111, 119]⟩ [l.n, l.depth, l.fuel] (by simp; exact ⟨h.n, h.depth, h.fuel⟩)
    rw [e2] at this; simp only [List.length_cons, List.length_nil] at this
    dsimp only; omega
  split
  · have := wordsT_size ⟨#[97, 116]⟩ [l.at_, l.gen] (by simp; exact ⟨h.at_, h.gen⟩)
    rw [e3] at this; simp only [List.length_cons, List.length_nil] at this
    dsimp only; omega
  split
  · have := wordsT_size ⟨#[100, 114, 111, 112]⟩ [l.n] (by simp; exact h.n)
    rw [e4] at this; simp only [List.length_cons, List.length_nil] at this
    dsimp only; omega
  split
  · have := wordsT_size ⟨#[99, 111, 108, 108, 101, 99, 116]⟩ [l.n] (by simp; exact h.n)
    rw [e5] at this; simp only [List.length_cons, List.length_nil] at this
    dsimp only; omega
  split
  · have := wordsT_size ⟨#[111, 117, 116]⟩ [] (by simp)
    rw [e6] at this; simp only [List.length_nil] at this
    dsimp only; omega
  · dsimp only; omega
theorem linesT_size : ∀ (l : List LineD), (∀ x ∈ l, LineOk x) → (linesT l).size ≤ 40 * sumOf LineD.size l
  | [], _ => by simp [linesT, sumOf, ByteArray.size]
  | x :: l, h => by
    have h1 := lineT_size x (h x List.mem_cons_self)
    have h2 := linesT_size l fun y hy => h y (List.mem_cons_of_mem _ hy)
    simp only [linesT, sumOf, ByteArray.size_append]; omega
abbrev heapW : ByteArray := ⟨#[104, 101, 97, 112]⟩
def headT (s : ScrD) : ByteArray := wordsT heapW [s.gens, s.steps, s.blocks, s.nursery, s.hops, s.words]
theorem headT_size (s : ScrD) (h : ScrOk s) : (headT s).size ≤ 131 := by
  have := wordsT_size heapW [s.gens, s.steps, s.blocks, s.nursery, s.hops, s.words] (by simp; exact ⟨h.gens, h.steps, h.blocks, h.nursery, h.hops, h.words⟩)
  have e : heapW.size = 4 := rfl
  rw [e] at this
  simpa [headT] using this
/-- The lines of a script's program. -/
def progP (s : ScrD) : List ByteArray := if s.text = ⟨#[]⟩ then [] else splitP (s.text.extract 0 (s.text.size - 1)) 10
/-- What a script is written as, or what is wrong. -/
def writeT (s : ScrD) : ByteArray × Int :=
  if ¬ s.text = ⟨#[]⟩ ∧ ¬ ch s.text (s.text.size - 1) = 10 then (⟨#[]⟩, 2)
  else if (s.lines.all fun l => (lineT l).2) = false then (⟨#[]⟩, 2)
  else if 2048 < 2 + (progP s).length + s.lines.length then (⟨#[]⟩, 3)
  else (headT s ++ partsT (progP s) ++ linesT s.lines, 0)
theorem progP_len (s : ScrD) (h : ScrOk s) : (progP s).length ≤ 1200001 ∧ sumOf ByteArray.size (progP s) ≤ 1200000 := by
  have ht := h.text
  unfold progP
  split
  · simp [sumOf]
  · have h1 := splitP_len (s.text.extract 0 (s.text.size - 1)) 10
    have h2 := splitP_sum (s.text.extract 0 (s.text.size - 1)) 10
    rw [ByteArray.size_extract] at h1 h2
    omega
theorem splitE_cut (s : ByteArray) (h0 : 0 < s.size) (hl : ch s (s.size - 1) = 10) : ∀ n a i, n = s.size - 1 - i → a ≤ i → i ≤ s.size - 1 → splitE s 10 a i = splitE (s.extract 0 (s.size - 1)) 10 a i ++ [⟨#[]⟩]
  | n, a, i, hn, h1, h2 => by
    have es : (s.extract 0 (s.size - 1)).size = s.size - 1 := by rw [ByteArray.size_extract]; omega
    have ex : ∀ j, j ≤ s.size - 1 → (s.extract 0 (s.size - 1)).extract a j = s.extract a j := fun j hj => by
      rw [ByteArray.extract_extract]; congr 1 <;> omega
    rw [splitE_eq s, splitE_eq (s.extract 0 (s.size - 1)), es, if_pos (by omega)]
    rcases Nat.lt_or_ge i (s.size - 1) with hi | hi
    · rw [if_pos hi]
      have hc : ch (s.extract 0 (s.size - 1)) i = ch s i := by rw [ch_extract s (by omega) (by omega), Nat.zero_add]
      rw [hc]
      split
      · rw [ex i (by omega), splitE_cut s h0 hl (s.size - 1 - (i + 1)) (i + 1) (i + 1) rfl (Nat.le_refl _) (by omega)]; rfl
      · exact splitE_cut s h0 hl (s.size - 1 - (i + 1)) a (i + 1) rfl (by omega) (by omega)
    · obtain rfl : i = s.size - 1 := by omega
      rw [if_pos hl, if_neg (show ¬ s.size - 1 < s.size - 1 by omega), splitE_eq, if_neg (show ¬ s.size - 1 + 1 < s.size by omega), ex _ (Nat.le_refl _)]
      rw [show s.size - 1 + 1 = s.size by omega]
      rw [show s.extract s.size s.size = ⟨#[]⟩ from ByteArray.extract_same]
      rfl
  termination_by n a i => s.size - 1 - i
/-- The parts of a text that ends with a byte 10. -/
theorem split_prog (s : ScrD) (h : ¬ (¬ s.text = ⟨#[]⟩ ∧ ¬ ch s.text (s.text.size - 1) = 10)) : splitP s.text 10 = progP s ++ [⟨#[]⟩] := by
  unfold progP
  by_cases h0 : s.text = ⟨#[]⟩
  · rw [if_pos h0, h0]; rfl
  · rw [if_neg h0]
    have hpos : 0 < s.text.size := by
      rcases Nat.eq_zero_or_pos s.text.size with e | e
      · exact absurd (ByteArray.size_eq_zero_iff.1 e) h0
      · exact e
    exact splitE_cut s.text hpos (Classical.byContradiction fun c => h ⟨h0, c⟩) _ 0 0 rfl (Nat.le_refl _) (Nat.zero_le _)
end Go.Proofs.YtmiekonofocboaaGreatDoor.Q
