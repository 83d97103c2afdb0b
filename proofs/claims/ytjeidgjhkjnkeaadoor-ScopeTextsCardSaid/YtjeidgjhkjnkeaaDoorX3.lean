/- Programs as data: how large their parts are. -/
import Derived.Test.YtjeidgjhkjnkeaaDoorX2
namespace Go.Eng
open Go Go.RowKit
set_option linter.unusedSimpArgs false
set_option linter.unusedVariables false
theorem sizeA_len (l : List (ByteArray × Int)) : l.length ≤ sizeA l := by
  induction l with
  | nil => simp
  | cons a l ih => simp only [sizeA, List.length_cons]; omega
theorem sizeEs_mem {e : Exp} : ∀ {l : List Exp}, e ∈ l → e.size ≤ sizeEs l
  | a :: l, h => by
    simp only [sizeEs]
    rcases List.mem_cons.1 h with rfl | h
    · omega
    · have := sizeEs_mem h; omega
theorem sizeBs_mem {e : Bind} : ∀ {l : List Bind}, e ∈ l → e.size ≤ sizeBs l
  | a :: l, h => by
    simp only [sizeBs]
    rcases List.mem_cons.1 h with rfl | h
    · omega
    · have := sizeBs_mem h; omega
theorem sizeLs_mem {e : Alt} : ∀ {l : List Alt}, e ∈ l → e.size ≤ sizeLs l
  | a :: l, h => by
    simp only [sizeLs]
    rcases List.mem_cons.1 h with rfl | h
    · omega
    · have := sizeLs_mem h; omega
theorem sizeBs_count : ∀ l : List Bind, l.length ≤ sizeBs l
  | [] => by simp
  | a :: l => by
    have := sizeBs_count l
    cases a
    simp only [sizeBs, Bind.size, List.length_cons]; omega
theorem sizeBs_take : ∀ (l : List Bind) (k : Nat), sizeBs (l.take k) ≤ sizeBs l
  | [], k => by simp
  | a :: l, 0 => by simp [sizeBs]
  | a :: l, k + 1 => by
    have := sizeBs_take l k
    simp only [List.take_succ_cons, sizeBs]; omega
theorem sizeLs_take : ∀ (l : List Alt) (k : Nat), sizeLs (l.take k) ≤ sizeLs l
  | [], k => by simp
  | a :: l, 0 => by simp [sizeLs]
  | a :: l, k + 1 => by
    have := sizeLs_take l k
    simp only [List.take_succ_cons, sizeLs]; omega
theorem size_eq (e : Exp) : e.size = e.name.size + 1 + sizeA e.atoms + sizeBs e.binds + sizeEs e.kids + sizeLs e.alts := by cases e; rfl
theorem bsize_eq (e : Bind) : e.size = e.name.size + 1 + sizeS e.args + e.body.size := by cases e; rfl
theorem asize_eq (e : Alt) : e.size = e.name.size + 1 + sizeS e.vars + e.body.size := by cases e; rfl
theorem sizeEs_count : ∀ l : List Exp, l.length ≤ sizeEs l
  | [] => Nat.le_refl _
  | a :: l => by
    have h1 := sizeEs_count l
    have h2 : 1 ≤ a.size := by cases a; simp only [Exp.size]; omega
    simp only [sizeEs, List.length_cons]; omega
theorem sizeLs_count : ∀ l : List Alt, l.length ≤ sizeLs l
  | [] => Nat.le_refl _
  | a :: l => by
    have h1 := sizeLs_count l
    have h2 : 1 ≤ a.size := by cases a; simp only [Alt.size]; omega
    simp only [sizeLs, List.length_cons]; omega
/-- One of them, and how many there are. -/
theorem sizeBs_mem2 : ∀ (l : List Bind) (i : Nat) (h : i < l.length), (l[i]).size + l.length ≤ sizeBs l + 1
  | a :: l, 0, _ => by
    have := sizeBs_count l
    simp only [sizeBs, List.getElem_cons_zero, List.length_cons]; omega
  | a :: l, i + 1, h => by
    have h1 := sizeBs_mem2 l i (by simpa using h)
    have h2 : 1 ≤ a.size := by cases a; simp only [Bind.size]; omega
    simp only [sizeBs, List.getElem_cons_succ, List.length_cons]; omega
end Go.Eng
