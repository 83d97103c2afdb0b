/- Trees as data, their texts; how they lie; what a reading of them gives. -/
import Derived.Test.YtmiekonofocboaaGreatDoorXA
import Derived.Test.YtmiekonofocboaaGreatDoorD2
namespace Go.Eng
open Go Go.RowKit Go.Proofs.YtmiekonofocboaaGreatDoor.Rows
set_option linter.unusedSimpArgs false
set_option linter.unusedVariables false
set_option linter.unusedSectionVars false
inductive Tree where
  | mk (kind : Int) (name : ByteArray) (n : Int) (kids : List Tree)
def Tree.kind : Tree → Int | .mk k _ _ _ => k
def Tree.name : Tree → ByteArray | .mk _ s _ _ => s
def Tree.n : Tree → Int | .mk _ _ n _ => n
def Tree.kids : Tree → List Tree | .mk _ _ _ l => l
mutual
def RTree (F : PH) : Tree → List Value → Prop
  | .mk k s n l, cs => ∃ v, cs = [.int .i64 k, .string s, .int .i64 n, v] ∧ ∃ xs, Sl F 4 v l.length xs ∧ RTrees F l xs
def RTrees (F : PH) : List Tree → List Value → Prop
  | [], xs => xs = []
  | e :: l, xs => ∃ c ys, xs = c ++ ys ∧ RTree F e c ∧ RTrees F l ys
end
theorem RTrees_each {F : PH} : ∀ {l : List Tree} {xs : List Value}, RTrees F l xs ↔ Each (RTree F) l xs
  | [], xs => by simp [RTrees, Each]
  | e :: l, xs => by simp only [RTrees, Each, RTrees_each]
theorem RTree_iff {F : PH} {t : Tree} {cs : List Value} : RTree F t cs ↔ ∃ v, cs = [.int .i64 t.kind, .string t.name, .int .i64 t.n, v] ∧ SlE F 4 (RTree F) v t.kids := by
  cases t with
  | mk k s n l => simp only [RTree, RTrees_each, SlE, Tree.kind, Tree.name, Tree.n, Tree.kids]
theorem RTree.len {F : PH} {t : Tree} {cs : List Value} (h : RTree F t cs) : cs.length = 4 := by
  obtain ⟨v, rfl, _⟩ := RTree_iff.1 h; rfl
mutual
theorem RTree.mono {F G : PH} (hl : F.le G) : ∀ {t : Tree} {cs : List Value}, RTree F t cs → RTree G t cs
  | .mk k s n l, cs, h => by
    simp only [RTree] at h ⊢
    obtain ⟨v, e, xs, h1, h2⟩ := h
    exact ⟨v, e, xs, h1.mono hl, RTrees.mono hl h2⟩
theorem RTrees.mono {F G : PH} (hl : F.le G) : ∀ {l : List Tree} {xs : List Value}, RTrees F l xs → RTrees G l xs
  | [], _, h => h
  | t :: l, xs, h => by
    simp only [RTrees] at h ⊢
    obtain ⟨c, ys, e, h1, h2⟩ := h
    exact ⟨c, ys, e, RTree.mono hl h1, RTrees.mono hl h2⟩
end
mutual
def Tree.size : Tree → Nat | .mk k s n l => s.size + 4 + sizeTs l
def sizeTs : List Tree → Nat | [] => 0 | t :: l => t.size + sizeTs l
end
mutual
def Tree.ok : Tree → Prop | .mk k s n l => I64 k ∧ I64 n ∧ s.size ≤ maxLen ∧ okTs l
def okTs : List Tree → Prop | [] => True | t :: l => t.ok ∧ okTs l
end
theorem okTs_iff : ∀ {l : List Tree}, okTs l ↔ ∀ e ∈ l, e.ok
  | [] => by simp [okTs]
  | e :: l => by simp [okTs, okTs_iff]
theorem sizeTs_sum : ∀ (l : List Tree), sizeTs l = sumOf Tree.size l
  | [] => by simp [sizeTs, sumOf]
  | e :: l => by simp [sizeTs, sumOf, sizeTs_sum l]
theorem sizeTs_mem : ∀ {l : List Tree} {t : Tree}, t ∈ l → t.size ≤ sizeTs l
  | e :: l, t, h => by
    simp only [sizeTs]
    rcases List.mem_cons.1 h with rfl | h
    · omega
    · have := sizeTs_mem h; omega
section
variable {H : Type} {enc : TypeId × Value → H} {P : Program} {w : World} {base : Nat} {spare : Nat → Bool} {held : Bool}
structure TreeTys where
  int : TypeId
  i64 : TypeId
  str : TypeId
  tree : TypeId
  trees : TypeId
structure TreeTys.In (T : TreeTys) (P : Program) : Prop where
  int : P.underlying T.int = some (.int .i64) ∧ P.cellsOf T.int = 1
  i64 : P.underlying T.i64 = some (.int .i64) ∧ P.cellsOf T.i64 = 1
  str : P.underlying T.str = some .string ∧ P.cellsOf T.str = 1
  tree : fieldsOf P T.tree [(T.int, 0), (T.str, 1), (T.i64, 2), (T.trees, 3)] ∧ P.cellsOf T.tree = 4
  trees : P.underlying T.trees = some (.slice T.tree) ∧ P.cellsOf T.trees = 1
theorem reads_tree {T : TreeTys} (hT : T.In P) (m : Nat) : Reads enc P w base spare held T.tree m (RTree (whole w)) Tree.ok Tree.size := by
  induction m using Nat.strongRecOn with
  | _ m ih =>
    intro cs y h
    obtain ⟨xs, n, rfl, e, h1, h2, h3⟩ := reads_struct hT.tree.1 h
    rw [hT.tree.2] at h1
    match cs, h1, xs, h2 with
    | [c0, c1, c2, c3], h1, [y0, y1, y2, y3], _ =>
      have a0 := h3 0 _ _ rfl
      have a1 := h3 1 _ _ rfl
      have a2 := h3 2 _ _ rfl
      have a3 := h3 3 _ _ rfl
      simp only [hT.str.2, hT.int.2, hT.i64.2, hT.trees.2, List.drop_zero, List.drop_succ_cons, List.take_succ_cons, List.take_zero, List.getElem?_cons_zero, List.getElem?_cons_succ] at a0 a1 a2 a3
      obtain ⟨k, r0, w0, z0⟩ := reads_int hT.int.1 _ _ _ a0
      obtain ⟨s, r1, w1, z1⟩ := reads_str hT.str.1 _ _ _ a1
      obtain ⟨i, r2, w2, z2⟩ := reads_int hT.i64.1 _ _ _ a2
      obtain ⟨v, l, r3, ⟨xs', k1, k2⟩, w3, z3⟩ := reads_slice hT.trees.1 hT.tree.2 (fun m' hm => ih m' (by omega)) (fun a c e => RTree.len e) a3
      cases r0; cases r1; cases r2; cases r3
      refine ⟨.mk k s i l, ?_, ⟨w0, w2, w1, okTs_iff.2 w3⟩, ?_⟩
      · simp only [RTree, RTrees_each]; exact ⟨c3, rfl, xs', k1, k2⟩
      rw [e]
      simp only [List.map_cons, List.map_nil, uptoBulk, uptoBulkAll, Tree.size, sizeTs_sum]
      dsimp only at *
      omega
end
end Go.Eng
namespace Go.Proofs.YtmiekonofocboaaGreatDoor.Q
open Go Go.Eng
set_option linter.unusedVariables false
mutual
/-- What a tree is written as. -/
def treeT : Tree → ByteArray
  | .mk k s n l => if k = 1 then digitsP n else if k = 2 then (if l.length = 0 then s else ⟨#[40]⟩ ++ s ++ kidsT l ++ ⟨#[41]⟩) else if k = 3 then ⟨#[60, 102, 117, 110, 62]⟩ else
    if k = 4 then ⟨#[60, 114, 101, 102]⟩ ++ kidsT l ++ ⟨#[62]⟩ else if k = 5 then ⟨#[60, 97, 114, 114]⟩ ++ kidsT l ++ ⟨#[62]⟩ else ⟨#[95]⟩
def kidsT : List Tree → ByteArray
  | [] => ⟨#[]⟩
  | t :: l => ⟨#[32]⟩ ++ treeT t ++ kidsT l
end
theorem treeT_eq (t : Tree) : treeT t = if t.kind = 1 then digitsP t.n else if t.kind = 2 then (if t.kids.length = 0 then t.name else ⟨#[40]⟩ ++ t.name ++ kidsT t.kids ++ ⟨#[41]⟩) else if t.kind = 3 then ⟨#[60, 102, 117, 110, 62]⟩ else
    if t.kind = 4 then ⟨#[60, 114, 101, 102]⟩ ++ kidsT t.kids ++ ⟨#[62]⟩ else if t.kind = 5 then ⟨#[60, 97, 114, 114]⟩ ++ kidsT t.kids ++ ⟨#[62]⟩ else ⟨#[95]⟩ := by
  cases t
  simp only [treeT, Tree.kind, Tree.n, Tree.kids, Tree.name]
  rfl
theorem app_nil (s : ByteArray) : s ++ (⟨#[]⟩ : ByteArray) = s := ByteArray.append_empty
theorem nil_app (s : ByteArray) : (⟨#[]⟩ : ByteArray) ++ s = s := ByteArray.empty_append
theorem kidsT_append : ∀ (l m : List Tree), kidsT (l ++ m) = kidsT l ++ kidsT m
  | [], m => by rw [List.nil_append, kidsT, nil_app]
  | t :: l, m => by simp only [List.cons_append, kidsT, kidsT_append l m, ByteArray.append_assoc]
theorem kidsT_snoc (l : List Tree) (t : Tree) : kidsT (l ++ [t]) = kidsT l ++ ⟨#[32]⟩ ++ treeT t := by
  rw [kidsT_append]; simp only [kidsT, app_nil, ByteArray.append_assoc]
mutual
theorem treeT_size : ∀ (t : Tree), t.ok → (treeT t).size + 1 ≤ 6 * t.size
  | .mk k s n l, h => by
    simp only [Tree.ok] at h
    have h1 := digits_size h.2.1
    have h2 := kidsT_size l h.2.2.2
    have e1 : ByteArray.size { data := #[40] } = 1 := rfl
    have e2 : ByteArray.size { data := #[41] } = 1 := rfl
    have e3 : ByteArray.size { data := #[60, 102, 117, 110, 62] } = 5 := rfl
    have e4 : ByteArray.size { data := #[60, 114, 101, 102] } = 4 := rfl
    have e5 : ByteArray.size { data := #[60, 97, 114, 114] } = 4 := rfl
    have e6 : ByteArray.size { data := #[62] } = 1 := rfl
    have e7 : ByteArray.size { data := #[95] } = 1 := rfl
    simp only [treeT, Tree.size]
    repeat' split
    all_goals try simp only [ByteArray.size_append, e1, e2, e3, e4, e5, e6, e7]
    all_goals omega
theorem kidsT_size : ∀ (l : List Tree), okTs l → (kidsT l).size ≤ 6 * sizeTs l
  | [], _ => by simp [kidsT, sizeTs, ByteArray.size]
  | t :: l, h => by
    simp only [okTs] at h
    have h1 := treeT_size t h.1
    have h2 := kidsT_size l h.2
    have e1 : ByteArray.size { data := #[32] } = 1 := rfl
    simp only [kidsT, sizeTs, ByteArray.size_append, e1]
    omega
end
end Go.Proofs.YtmiekonofocboaaGreatDoor.Q
