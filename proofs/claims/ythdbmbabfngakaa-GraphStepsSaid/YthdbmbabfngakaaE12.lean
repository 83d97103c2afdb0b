/- The engine, part 12: loops that leave all but some slots (and what never turns) as they are. -/
import Derived.Test.YthdbmbabfngakaaE11
namespace Go.Eng
open Go Go.RowKit
section
variable {P : Program} {n : Nat} {C : Cx} {k : List KItem} {S : St}
theorem VC.loopL {ι : Type} {c : Code} (L : ι → KL) (I : ι → Prop) (μ : ι → Nat) (i0 : ι) (h0 : I i0) (hs : subk S.L (L i0))
    (round : ∀ i, I i → ∀ G : St → Prop, (∀ j S', I j → μ j < μ i → subk S'.L (L j) → S.M.Sublist S'.M → S'.F = S.F → S'.R = S.R → G S') → VC P n C (.code c :: .done G :: k) ⟨L i, S.M, S.F, S.R, S.nx⟩) : VC P n C (.code (.loop c) :: k) S :=
  VC.loop (fun i => ⟨L i, S.M, S.F, S.R, S.nx⟩) I μ i0 h0 ⟨subk_le hs, List.Sublist.refl _, rfl, List.Sublist.refl _⟩ fun i hi G hG =>
    round i hi G fun j S' h1 h2 h3 h4 h5 h6 => hG j S' h1 h2 ⟨subk_le h3, h4, h5.symm, by rw [h6]; exact List.Sublist.refl _⟩
theorem VC.loopF {ι : Type} {c : Code} (L : ι → KL) (F : ι → PH) (I : ι → Prop) (μ : ι → Nat) (i0 : ι) (h0 : I i0) (hs : subk S.L (L i0)) (hF : F i0 = S.F)
    (round : ∀ i, I i → ∀ G : St → Prop, (∀ j S', I j → μ j < μ i → subk S'.L (L j) → S.M.Sublist S'.M → S'.F = F j → S'.R = S.R → G S') → VC P n C (.code c :: .done G :: k) ⟨L i, S.M, F i, S.R, S.nx⟩) : VC P n C (.code (.loop c) :: k) S :=
  VC.loop (fun i => ⟨L i, S.M, F i, S.R, S.nx⟩) I μ i0 h0 ⟨subk_le hs, List.Sublist.refl _, hF, List.Sublist.refl _⟩ fun i hi G hG =>
    round i hi G fun j S' h1 h2 h3 h4 h5 h6 => hG j S' h1 h2 ⟨subk_le h3, h4, h5.symm, by rw [h6]; exact List.Sublist.refl _⟩
/-- The same with one row that is lent. -/
theorem VC.loopR {ι : Type} {c : Code} (L : ι → KL) (F r : ι → PH) (Rf : List PH) (I : ι → Prop) (μ : ι → Nat) (i0 : ι) (h0 : I i0) (hs : subk S.L (L i0)) (hF : F i0 = S.F) (hR : S.R = r i0 :: Rf)
    (round : ∀ i, I i → ∀ G : St → Prop, (∀ j S', I j → μ j < μ i → subk S'.L (L j) → S.M.Sublist S'.M → S'.F = F j → S'.R = r j :: Rf → G S') → VC P n C (.code c :: .done G :: k) ⟨L i, S.M, F i, r i :: Rf, S.nx⟩) : VC P n C (.code (.loop c) :: k) S :=
  VC.loop (fun i => ⟨L i, S.M, F i, r i :: Rf, S.nx⟩) I μ i0 h0 ⟨subk_le hs, List.Sublist.refl _, hF, by rw [hR]; exact List.Sublist.refl _⟩ fun i hi G hG =>
    round i hi G fun j S' h1 h2 h3 h4 h5 h6 => hG j S' h1 h2 ⟨subk_le h3, h4, h5.symm, by rw [h6]; exact List.Sublist.refl _⟩
/-- The same with rows that are lent. -/
theorem VC.loopG {ι : Type} {c : Code} (L : ι → KL) (F : ι → PH) (R : ι → List PH) (I : ι → Prop) (μ : ι → Nat) (i0 : ι) (h0 : I i0) (hs : subk S.L (L i0)) (hF : F i0 = S.F) (hR : (R i0).Sublist S.R)
    (round : ∀ i, I i → ∀ G : St → Prop, (∀ j S', I j → μ j < μ i → subk S'.L (L j) → S.M.Sublist S'.M → S'.F = F j → (R j).Sublist S'.R → G S') → VC P n C (.code c :: .done G :: k) ⟨L i, S.M, F i, R i, S.nx⟩) : VC P n C (.code (.loop c) :: k) S :=
  VC.loop (fun i => ⟨L i, S.M, F i, R i, S.nx⟩) I μ i0 h0 ⟨subk_le hs, List.Sublist.refl _, hF, hR⟩ fun i hi G hG =>
    round i hi G fun j S' h1 h2 h3 h4 h5 h6 => hG j S' h1 h2 ⟨subk_le h3, h4, h5.symm, h6⟩
/-- A cut behind a piece of code: what it comes to. -/
theorem VC.cutG {ι : Type} {c : Code} (L : ι → KL) (F : ι → PH) (R : ι → List PH) (I : ι → Prop) (hx : ∀ G : St → Prop, (∀ j S', I j → subk S'.L (L j) → S.M.Sublist S'.M → S'.F = F j → (R j).Sublist S'.R → G S') → VC P n C (.code c :: .done G :: k) S)
    (hk : ∀ i, I i → VC P n C k ⟨L i, S.M, F i, R i, S.nx⟩) : VC P n C (.code c :: k) S :=
  VC.cut (fun i => ⟨L i, S.M, F i, R i, S.nx⟩) I (fun G hG => hx G fun j S' h1 h3 h4 h5 h6 => hG j S' h1 ⟨subk_le h3, h4, h5.symm, h6⟩) hk
end
end Go.Eng
