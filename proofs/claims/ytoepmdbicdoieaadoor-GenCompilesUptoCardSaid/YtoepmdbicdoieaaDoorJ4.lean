/- The document's free names: walk. -/
import Derived.Test.YtoepmdbicdoieaaDoorJ3
namespace Go.Proofs.YtoepmdbicdoieaaDoor.J
open Go Go.Eng Go.Proofs Go.Proofs.YtoepmdbicdoieaaDoor.T Go.Proofs.YtoepmdbicdoieaaDoor.V Go.Proofs.YtoepmdbicdoieaaDoor.K Go.Proofs.YtoepmdbicdoieaaDoor.U
open Go.Proofs.YtoepmdbicdoieaaDoor.W (i64v ptr)
set_option linter.unusedSimpArgs false
set_option linter.unusedVariables false
set_option maxRecDepth 100000
set_option maxHeartbeats 4000000
instance decMem (s : ByteArray) (l : List ByteArray) : Decidable (s ∈ l) := decidable_of_iff (hasB l s = true) hasB_iff
/-- A name is put behind others, if it is not bound and not there yet. -/
def putN (bound out : List ByteArray) (s : ByteArray) : List ByteArray := if s = ⟨#[]⟩ ∨ s ∈ bound ∨ s ∈ out then out else out ++ [s]
def pushN (bound l out : List ByteArray) : List ByteArray := l.foldl (putN bound) out
theorem pushN_append (bound a b out : List ByteArray) : pushN bound (a ++ b) out = pushN bound b (pushN bound a out) := List.foldl_append ..
theorem putN_sub (bound out : List ByteArray) (s : ByteArray) : ∀ x ∈ out, x ∈ putN bound out s := fun x hx => by
  unfold putN; split
  · exact hx
  · exact List.mem_append_left _ hx
theorem pushN_sub (bound : List ByteArray) : ∀ (l out : List ByteArray), ∀ x ∈ out, x ∈ pushN bound l out
  | [], _, _, h => h
  | s :: l, out, x, h => pushN_sub bound l _ x (putN_sub bound out s x h)
theorem putN_in (bound out : List ByteArray) (s : ByteArray) (h1 : ¬ s = ⟨#[]⟩) (h2 : ¬ s ∈ bound) : s ∈ putN bound out s := by
  unfold putN; split
  · rename_i h; rcases h with h | h | h
    · exact absurd h h1
    · exact absurd h h2
    · exact h
  · simp
theorem pushN_in (bound : List ByteArray) : ∀ (l out : List ByteArray) (s : ByteArray), s ∈ l → ¬ s = ⟨#[]⟩ → ¬ s ∈ bound → s ∈ pushN bound l out
  | x :: l, out, s, h, h1, h2 => by
    rcases List.mem_cons.1 h with rfl | h
    · exact pushN_sub bound l _ _ (putN_in bound out s h1 h2)
    · exact pushN_in bound l _ s h h1 h2
/-- A name that is passed over. -/
theorem putN_skip {bound out : List ByteArray} {s : ByteArray} (h : s = ⟨#[]⟩ ∨ s ∈ bound ∨ s ∈ out) : putN bound out s = out := if_pos h
theorem lessL_mem {l names : List ByteArray} {s : ByteArray} : s ∈ lessL l names ↔ s ∈ l ∧ ¬ s ∈ names := by
  unfold lessL
  rw [List.mem_filter]
  simp only [Bool.not_eq_true', List.any_eq_false, decide_eq_true_eq]
  exact and_congr_right fun _ => ⟨fun h hs => h s hs rfl, fun h x hx e => h (e ▸ hx)⟩
theorem lessL_one (s : ByteArray) (names : List ByteArray) : lessL [s] names = if s ∈ names then [] else [s] := by
  have h0 := lessL_mem (l := [s]) (names := names) (s := s)
  unfold lessL at h0 ⊢
  by_cases h : s ∈ names
  · rw [if_pos h, List.filter_cons_of_neg, List.filter_nil]
    simp only [Bool.not_eq_true', List.any_eq_false, decide_eq_true_eq]
    exact fun hh => hh s h rfl
  · rw [if_neg h, List.filter_cons_of_pos, List.filter_nil]
    simp only [Bool.not_eq_true', List.any_eq_false, decide_eq_true_eq]
    exact fun x hx e => h (e ▸ hx)
theorem putN_bound (b1 b2 out : List ByteArray) (s : ByteArray) : putN (b1 ++ b2) out s = if s ∈ b2 then out else putN b1 out s := by
  unfold putN
  by_cases h : s ∈ b2 <;> simp [h]
theorem pushN_less (bound ns : List ByteArray) : ∀ (l out : List ByteArray), pushN bound (lessL l ns) out = pushN (bound ++ ns) l out
  | [], _ => rfl
  | s :: l, out => by
    have e : lessL (s :: l) ns = lessL [s] ns ++ lessL l ns := lessL_append [s] l ns
    rw [e, pushN_append, pushN_less bound ns l, lessL_one]
    show _ = pushN (bound ++ ns) l (putN (bound ++ ns) out s)
    rw [putN_bound]
    split <;> rfl
theorem onceF_mem (bound : List ByteArray) : ∀ (l acc out : List ByteArray), pushN bound (l.foldl (fun out s => out ++ lessL [s] out) acc) out = pushN bound l (pushN bound acc out)
  | [], _, _ => rfl
  | s :: l, acc, out => by
    simp only [List.foldl_cons]
    rw [onceF_mem bound l]
    show _ = pushN bound l (putN bound (pushN bound acc out) s)
    congr 1
    rw [lessL_one]
    by_cases h : s ∈ acc
    · rw [if_pos h, List.append_nil]
      by_cases h1 : s = ⟨#[]⟩
      · rw [putN_skip (.inl h1)]
      by_cases h2 : s ∈ bound
      · rw [putN_skip (.inr (.inl h2))]
      · rw [putN_skip (.inr (.inr (pushN_in bound acc out s h h1 h2)))]
    · rw [if_neg h, pushN_append]; rfl
theorem pushN_once (bound l out : List ByteArray) : pushN bound (onceL l) out = pushN bound l out := onceF_mem bound l [] out
/-- What is pushed by an expression. -/
theorem pushN_empty (bound : List ByteArray) : ∀ (l out : List ByteArray), pushN bound (lessL l [⟨#[]⟩]) out = pushN bound l out
  | [], _ => rfl
  | s :: l, out => by
    have e : lessL (s :: l) [⟨#[]⟩] = lessL [s] [⟨#[]⟩] ++ lessL l [⟨#[]⟩] := lessL_append [s] l _
    rw [e, pushN_append, pushN_empty bound l, lessL_one]
    show _ = pushN bound l (putN bound out s)
    by_cases h : s = ⟨#[]⟩
    · rw [if_pos (by simp [h]), putN_skip (.inl h)]; rfl
    · rw [if_neg (by simp [h])]; rfl
theorem pushN_atoms (bound : List ByteArray) : ∀ (ats : List (ByteArray × Int)) (out : List ByteArray), pushN bound (atomsL ats) out = pushN bound (ats.map Prod.fst) out
  | [], _ => rfl
  | a :: l, out => by
    show pushN bound (lessL [a.1] [⟨#[]⟩] ++ atomsL l) out = pushN bound (l.map Prod.fst) (putN bound out a.1)
    rw [pushN_append, pushN_empty, pushN_atoms bound l]; rfl
theorem pushN_len (bound : List ByteArray) : ∀ (l out : List ByteArray), (pushN bound l out).length ≤ out.length + l.length
  | [], out => by simp [pushN]
  | s :: l, out => by
    have := pushN_len bound l (putN bound out s)
    have h2 : (putN bound out s).length ≤ out.length + 1 := by unfold putN; split <;> simp
    show (pushN bound l (putN bound out s)).length ≤ _
    rw [List.length_cons]; omega
/-- With nothing bound and nothing there: the names themselves. -/
theorem pushN_nodup (bound : List ByteArray) : ∀ (l out : List ByteArray), l.Nodup → (∀ s ∈ l, ¬ s ∈ out) → (∀ s ∈ l, ¬ s = ⟨#[]⟩) → pushN bound l out = out ++ lessL l bound
  | [], out, _, _, _ => by simp [pushN, lessL]
  | s :: l, out, hn, ho, he => by
    rw [List.nodup_cons] at hn
    have e : lessL (s :: l) bound = lessL [s] bound ++ lessL l bound := lessL_append [s] l _
    show pushN bound l (putN bound out s) = _
    have hs := he s List.mem_cons_self
    have hso := ho s List.mem_cons_self
    by_cases hb : s ∈ bound
    · rw [putN_skip (.inr (.inl hb)), pushN_nodup bound l out hn.2 (fun x hx => ho x (List.mem_cons_of_mem _ hx)) (fun x hx => he x (List.mem_cons_of_mem _ hx)), e, lessL_one, if_pos hb, List.nil_append]
    · rw [show putN bound out s = out ++ [s] from if_neg (by simp [hs, hb, hso]), pushN_nodup bound l (out ++ [s]) hn.2 (fun x hx => ?_) (fun x hx => he x (List.mem_cons_of_mem _ hx)), e, lessL_one, if_neg hb, List.append_assoc]
      intro h
      rcases List.mem_append.1 h with h | h
      · exact ho x (List.mem_cons_of_mem _ hx) h
      · simp at h; subst h; exact hn.1 hx
theorem onceF_nodup : ∀ (l acc : List ByteArray), acc.Nodup → (l.foldl (fun out s => out ++ lessL [s] out) acc).Nodup
  | [], acc, h => h
  | s :: l, acc, h => by
    simp only [List.foldl_cons]
    refine onceF_nodup l _ ?_
    rw [lessL_one]
    split
    · rwa [List.append_nil]
    · rename_i hs
      rw [List.nodup_append]
      exact ⟨h, by simp, fun a ha b hb => by simp at hb; subst hb; exact fun e => hs (e ▸ ha)⟩
theorem within_nodup (e : Exp) : (within e).Nodup := by rw [within_eq]; exact onceF_nodup _ [] (by simp)
theorem push_within (e : Exp) (bound : List ByteArray) : pushN bound (within e) [] = lessL (within e) bound := by
  rw [pushN_nodup bound _ [] (within_nodup e) (fun _ _ h => nomatch h) (W.within_ne e), List.nil_append]
theorem lessL_nil (l : List ByteArray) : lessL l [] = l := by simp [lessL]
end Go.Proofs.YtoepmdbicdoieaaDoor.J
