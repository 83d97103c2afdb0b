/- What the rows of this seat ask of the program; a graph that is handed in. -/
import Derived.Test.YthdbmbabfngakaaY1
import Derived.Test.YthdbmbabfngakaaH21
import Derived.Test.YthdbmbabfngakaaProg
import Derived.Test.YthdbmbabfngakaaChecked
import Derived.WalkKit
import Derived.ProofKit
import Derived.OpenShut
import Derived.ChangeOld
import Derived.Below
import Derived.SizedLaws
import Derived.JoinedCond
import Derived.Carry
namespace Go.Proofs.Ythdbmbabfngakaa.R
open Go Go.Eng Go.Proofs Go.Proofs.Ythdbmbabfngakaa.G
open Go.ChangeShapes Go.WideShapes Go.ChangeAt Go.RowKit
set_option maxRecDepth 100000
theorem own : ownKnob Try.prog.godebug = none := by kernel_rfl
theorem laidOut : laidOutB Try.prog = true := by kernel_rfl
theorem nodeF : fieldsOf Try.prog 34 [(3, 0), (3, 1), (32, 2), (22, 3)] := ⟨_, Try.underlying34, rfl⟩
theorem graphF : fieldsOf Try.prog 25 [(22, 0), (23, 1)] := ⟨_, Try.underlying25, rfl⟩
theorem c_int : Try.prog.cellsOf 3 = 1 := by kernel_rfl
theorem c_ints : Try.prog.cellsOf 22 = 1 := by kernel_rfl
theorem c_u64 : Try.prog.cellsOf 40 = 1 := by kernel_rfl
theorem c_u64s : Try.prog.cellsOf 32 = 1 := by kernel_rfl
theorem c_node : Try.prog.cellsOf 34 = 4 := by kernel_rfl
theorem c_nodes : Try.prog.cellsOf 23 = 1 := by kernel_rfl
theorem c_graph : Try.prog.cellsOf 25 = 2 := by kernel_rfl
theorem b_u64 : Try.prog.bytesOf 40 = 8 := by kernel_rfl
section
variable {H : Type} {enc : TypeId × Value → H} {w : World} {base : Nat} {spare : Nat → Bool} {held : Bool}
theorem reads_node {m : Nat} {cs : List Value} {y : DataW H × List MemPlace} (h : DataW.trod enc Try.prog w base spare held m 34 cs = some y) (hw : ∀ k ∈ y.1.weights Try.prog 34, k ≤ reachBytes) :
    ∃ a : Nd, RNd (whole w) a cs ∧ (a.nons.length ≤ 17592186044416 ∧ ∀ i ∈ a.nons, 0 ≤ i) := by
  obtain ⟨xs, n, rfl, h1, h2, h3⟩ := readsW_struct (enc := enc) (w := w) (base := base) (spare := spare) (held := held) nodeF h hw
  rw [c_node] at h1
  match cs, h1, xs, h2 with
  | [c0, c1, c2, c3], _, [y0, y1, y2, y3], _ =>
    have a0 := h3 0 _ _ rfl _ rfl
    have a1 := h3 1 _ _ rfl _ rfl
    have a2 := h3 2 _ _ rfl _ rfl
    have a3 := h3 3 _ _ rfl _ rfl
    simp only [c_int, c_ints, c_u64s, List.drop_zero, List.drop_succ_cons, List.take_succ_cons, List.take_zero] at a0 a1 a2 a3
    obtain ⟨k, r0, _⟩ := readsW_int Try.underlying3 a0.1
    obtain ⟨i, r1, _⟩ := readsW_int Try.underlying3 a1.1
    obtain ⟨v2, l2, r2, s2, w2, b2⟩ := readsW_ints Try.underlying32 Try.underlying40 c_u64 a2.1 a2.2
    obtain ⟨v3, l3, r3, s3, w3, b3⟩ := readsW_ints Try.underlying22 Try.underlying3 c_int a3.1 a3.2
    cases r0; cases r1; cases r2; cases r3
    refine ⟨⟨k, i, l2, l3⟩, ⟨_, _, rfl, s2, s3⟩, ?_, fun j hj => (u64_wf (w2 j hj)).1⟩
    rw [b_u64] at b2
    unfold reachBytes at b2
    dsimp only
    omega
theorem reads_graph {m : Nat} {cs : List Value} {y : DataW H × List MemPlace} (h : DataW.trod enc Try.prog w base spare held m 25 cs = some y) (hw : ∀ k ∈ y.1.weights Try.prog 25, k ≤ reachBytes) :
    ∃ g : Gr, Gra (whole w) (.agg cs.toArray) g ∧ OkN g := by
  obtain ⟨xs, n, rfl, h1, h2, h3⟩ := readsW_struct (enc := enc) (w := w) (base := base) (spare := spare) (held := held) graphF h hw
  rw [c_graph] at h1
  match cs, h1, xs, h2 with
  | [c0, c1], _, [y0, y1], _ =>
    have a0 := h3 0 _ _ rfl _ rfl
    have a1 := h3 1 _ _ rfl _ rfl
    simp only [c_ints, c_nodes, List.drop_zero, List.drop_succ_cons, List.take_succ_cons, List.take_zero] at a0 a1
    obtain ⟨v0, l0, r0, s0, w0, b0⟩ := readsW_ints Try.underlying22 Try.underlying3 c_int a0.1 a0.2
    obtain ⟨v1, l1, r1, s1, w1, b1⟩ := readsW_slice (R := RNd (whole w)) (W := fun a : Nd => a.nons.length ≤ 17592186044416 ∧ ∀ i ∈ a.nons, 0 ≤ i) Try.underlying23 c_node (fun m _ cs y hy hw => reads_node hy hw) (fun _ _ h => RNd.len _ _ h) a1.1 a1.2
    cases r0; cases r1
    exact ⟨⟨l0, l1⟩, ⟨_, _, rfl, s0, s1⟩, w1⟩
end
/-- A graph that is handed in. -/
theorem open_graph {H : Type} {enc : TypeId × Value → H} {W : World} {base : Nat} {spare : Nat → Bool} {held : Bool} {b0 : Nat} {r : Reach} {v0 : Value} {d : DataW H} {p : List MemPlace} (hval : Value.okWide Try.prog W r b0 25 v0) (h : DataW.Trod enc Try.prog W base spare held 25 v0 d p) (hw : ∀ k ∈ d.weights Try.prog 25, k ≤ reachBytes) :
    ∃ g : Gr, Gra (whole W) v0 g ∧ OkN g := by
  obtain ⟨cs, rfl, _⟩ := okWide_struct Try.underlying25 hval
  obtain ⟨fuel, hf⟩ := h
  obtain ⟨g, h1, h2⟩ := reads_graph hf hw
  exact ⟨g, h1, h2⟩
end Go.Proofs.Ythdbmbabfngakaa.R
