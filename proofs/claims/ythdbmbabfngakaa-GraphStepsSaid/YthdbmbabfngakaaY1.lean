/- What a reading of the arguments gives, where each slice and each text is of what a machine holds. -/
import Derived.Test.YthdbmbabfngakaaX2
namespace Go.Eng
open Go Go.RowKit
set_option linter.unusedSimpArgs false
set_option linter.unusedVariables false
section
variable {H : Type} {enc : TypeId × Value → H} {P : Program} {w : World} {base : Nat} {spare : Nat → Bool} {held : Bool}
theorem weightsAll_mem {e : TypeId} {k : Nat} : ∀ {l : List (DataW H)} {i : Nat} {d : DataW H}, l[i]? = some d → k ∈ d.weights P e → k ∈ DataW.weightsAll P e l
  | [], i, d, h, _ => by simp at h
  | x :: l, 0, d, h, hk => by simp at h; subst h; simp [DataW.weightsAll, hk]
  | x :: l, i + 1, d, h, hk => by
    simp only [List.getElem?_cons_succ] at h
    simp [DataW.weightsAll, weightsAll_mem h hk]
theorem weightsEach_mem {k : Nat} : ∀ {ts : List TypeId} {ds : List (DataW H)} {i : Nat} {t : TypeId} {d : DataW H}, ts[i]? = some t → ds[i]? = some d → k ∈ d.weights P t → k ∈ DataW.weightsEach P ts ds
  | [], ds, i, t, d, h, _, _ => by simp at h
  | x :: ts, [], i, t, d, _, h, _ => by simp at h
  | x :: ts, y :: ds, 0, t, d, h, h2, hk => by simp at h h2; subst h h2; simp [DataW.weightsEach, hk]
  | x :: ts, y :: ds, i + 1, t, d, h, h2, hk => by
    simp only [List.getElem?_cons_succ] at h h2
    simp [DataW.weightsEach, weightsEach_mem h h2 hk]
/-- What a reading gives, whatever it is read to, where nothing weighs too much. -/
abbrev ReadsW (enc : TypeId × Value → H) (P : Program) (w : World) (base : Nat) (spare : Nat → Bool) (held : Bool) (t : TypeId) (m : Nat) {α : Type} (R : α → List Value → Prop) (W : α → Prop) : Prop :=
  ∀ cs y, DataW.trod enc P w base spare held m t cs = some y → (∀ k ∈ y.1.weights P t, k ≤ reachBytes) → ∃ a, R a cs ∧ W a
end
section
variable {H : Type} {enc : TypeId × Value → H} {P : Program} {w : World} {base : Nat} {spare : Nat → Bool} {held : Bool}
theorem readsW_slice {α : Type} {R : α → List Value → Prop} {W : α → Prop} {t e : TypeId} {sz fuel : Nat} {cs : List Value} {x : DataW H × List MemPlace} (ht : P.underlying t = some (.slice e)) (hsz : P.cellsOf e = sz)
    (hR : ∀ m, m < fuel → ∀ cs y, DataW.trod enc P w base spare held m e cs = some y → (∀ k ∈ y.1.weights P e, k ≤ reachBytes) → ∃ a, R a cs ∧ W a) (hlen : ∀ a c, R a c → c.length = sz)
    (h : DataW.trod enc P w base spare held fuel t cs = some x) (hw : ∀ k ∈ x.1.weights P t, k ≤ reachBytes) : ∃ v l, cs = [v] ∧ SlE (whole w) sz R v l ∧ (∀ a ∈ l, W a) ∧ l.length * P.bytesOf e ≤ reachBytes := by
  rcases DataW.trod_slice ht h with ⟨rfl, rfl⟩ | ⟨a, len, cap, elems, rest, n, rfl, rfl, rfl, hb, h1, h2, h3, h4, _, _⟩
  · exact ⟨_, [], rfl, ⟨[], ⟨none, 0, rfl, Nat.le_refl _, Nat.zero_le _, by simp, fun h => absurd h (by simp)⟩, rfl⟩, (fun _ h => nomatch h), by simp⟩
  · simp only [DataW.weights, ht] at hw
    have hww : (elems.length + rest.length) * P.bytesOf e ≤ reachBytes := by simpa using hw _ List.mem_cons_self
    have key : ∀ k, k ≤ len → ∃ (l : List α) (xs : List Value), l.length = k ∧ Each R l xs ∧ (whole w).cells a (k * sz) = some xs ∧ (∀ b ∈ l, W b) := by
      intro k
      induction k with
      | zero => exact fun _ => ⟨[], [], rfl, rfl, by simp [PH.cells], (fun _ h => nomatch h)⟩
      | succ k ih =>
        intro hk
        obtain ⟨l, xs, g1, g2, g3, g4⟩ := ih (by omega)
        have hi := h4 k (by omega)
        have hkl : k < elems.length := by omega
        rw [List.getElem?_eq_getElem hkl, hsz] at hi
        cases hc : w.cells? base (a.add (k * sz)) sz with
        | none => rw [hc] at hi; cases hi
        | some ys =>
          rw [hc] at hi
          obtain ⟨b, k1, k2⟩ := hR n (by omega) ys _ hi (fun q hq => hw q (List.mem_cons_of_mem _ (List.mem_append_left _ (weightsAll_mem (i := k) (by simp [hkl]) hq))))
          refine ⟨l ++ [b], xs ++ ys, by simp [g1], ?_, ?_, fun c hc => ?_⟩
          · clear g1 g3 g4
            induction l generalizing xs with
            | nil => simp only [Each] at g2; subst g2; exact ⟨ys, [], by simp, k1, rfl⟩
            | cons d l ih =>
              obtain ⟨c, zs, rfl, m1, m2⟩ := g2
              exact ⟨c, zs ++ ys, by simp, m1, ih _ m2⟩
          · rw [Nat.succ_mul]; exact cells_append g3 (cells_whole hc)
          · rcases List.mem_append.1 hc with hc | hc
            · exact g4 c hc
            · rw [List.mem_singleton.1 hc]; exact k2
    obtain ⟨l, xs, g1, g2, g3, g4⟩ := key len (Nat.le_refl _)
    refine ⟨_, l, rfl, ⟨xs, ⟨some a, cap, by rw [g1], by omega, h2, ?_, fun _ => ⟨a, rfl, by rw [g1]; exact g3⟩⟩, g2⟩, g4, ?_⟩
    · exact Each.len hlen g2
    · rw [g1]
      exact Nat.le_trans (Nat.mul_le_mul_right _ (by omega)) hww
theorem readsW_struct {t : TypeId} {l : List (TypeId × Nat)} {fuel : Nat} {cs : List Value} {x : DataW H × List MemPlace} (ht : fieldsOf P t l) (h : DataW.trod enc P w base spare held fuel t cs = some x) (hw : ∀ k ∈ x.1.weights P t, k ≤ reachBytes) :
    ∃ (xs : List (DataW H × List MemPlace)) (n : Nat), fuel = n + 1 ∧ cs.length = P.cellsOf t ∧ xs.length = l.length ∧ ∀ (i : Nat) (ft : TypeId) (off : Nat), l[i]? = some (ft, off) → ∀ y, xs[i]? = some y → DataW.trod enc P w base spare held n ft ((cs.drop off).take (P.cellsOf ft)) = some y ∧ ∀ k ∈ y.1.weights P ft, k ≤ reachBytes := by
  obtain ⟨xs, n, h1, h2, h3, h4, h5⟩ := reads_struct ht h
  obtain ⟨fs, k1, k2⟩ := ht
  refine ⟨xs, n, h1, h3, h4, fun i ft off hi y hy => ⟨(h5 i ft off hi).trans hy, fun k hk => hw k ?_⟩⟩
  rw [h2]
  simp only [DataW.weights, k1]
  refine weightsEach_mem (i := i) ?_ (by rw [List.getElem?_map, hy]; rfl) hk
  have : (fs.toList.map (fun f => (f.type, f.offset))).map Prod.fst = fs.toList.map (·.type) := by rw [List.map_map]; rfl
  rw [← this, k2, List.getElem?_map, hi]
  rfl
theorem readsW_int {t : TypeId} {k : IntKind} (ht : P.underlying t = some (.int k)) {m : Nat} {cs : List Value} {y : DataW H × List MemPlace} (h : DataW.trod enc P w base spare held m t cs = some y) : ∃ n : Int, cs = [.int k n] ∧ (Lit.int k n).wf = true := by
  obtain ⟨n, rfl, rfl, hw⟩ := DataW.trod_int ht h
  exact ⟨n, rfl, hw⟩
end
theorem each_ints {k : IntKind} : ∀ {l : List Int} {xs : List Value}, Each (fun (n : Int) c => c = [.int k n]) l xs → xs = l.map (.int k)
  | [], _, h => h
  | s :: l, _, ⟨c, ys, e, h1, h2⟩ => by subst e h1; rw [each_ints h2]; rfl
theorem u64_wf {n : Int} (h : (Lit.int .u64 n).wf = true) : 0 ≤ n ∧ n ≤ 18446744073709551615 := by
  simp [Lit.wf, IntKind.min, IntKind.max, IntKind.signed, IntKind.bits] at h; omega
/-- A slice of integers. -/
theorem readsW_ints {H : Type} {enc : TypeId × Value → H} {P : Program} {w : World} {base : Nat} {spare : Nat → Bool} {held : Bool} {k : IntKind} {t e : TypeId} (ht : P.underlying t = some (.slice e)) (he : P.underlying e = some (.int k)) (hsz : P.cellsOf e = 1) {m : Nat} {cs : List Value} {y : DataW H × List MemPlace}
    (h : DataW.trod enc P w base spare held m t cs = some y) (hw : ∀ k ∈ y.1.weights P t, k ≤ reachBytes) : ∃ (v : Value) (l : List Int), cs = [v] ∧ Sl (whole w) 1 v l.length (l.map (.int k)) ∧ (∀ n ∈ l, (Lit.int k n).wf = true) ∧ l.length * P.bytesOf e ≤ reachBytes := by
  obtain ⟨v, l, rfl, ⟨xs, h1, h2⟩, h3, h4⟩ := readsW_slice (R := fun (n : Int) c => c = [.int k n]) (W := fun n => (Lit.int k n).wf = true) ht hsz (fun m _ cs y hy _ => readsW_int he hy) (fun a c e => by rw [e]; rfl) h hw
  rw [each_ints h2] at h1
  exact ⟨v, l, rfl, h1, h3, h4⟩
end Go.Eng
