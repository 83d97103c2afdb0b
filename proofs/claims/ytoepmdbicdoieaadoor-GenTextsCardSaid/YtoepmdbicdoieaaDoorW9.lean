/- gen: a case is laid; what that takes. -/
import Derived.Test.YtoepmdbicdoieaaDoorW8
namespace Go.Proofs.YtoepmdbicdoieaaDoor.W
open Go Go.Eng Go.RowKit Go.Proofs Go.Proofs.YtoepmdbicdoieaaDoor.T Go.Proofs.YtoepmdbicdoieaaDoor.K Go.Proofs.YtoepmdbicdoieaaDoor.U
open Go.Proofs.YtoepmdbicdoieaaDoor.V (within within_all within_len WithinOk classOf fieldOf)
set_option linter.unusedSimpArgs false
set_option linter.unusedVariables false
set_option maxRecDepth 100000
set_option maxHeartbeats 4000000
section
variable {P : Program} {n : Nat} {S : St} {o : Oper} {B : Base} {st : Bool} {κ : St → Prop}
/-- A map that is made and never turns. -/
theorem Eff.makeMapF {t : TypeId} (ho : o.op = .makeMap t none) (h : ∀ b F', S.F.le F' → F' b = some (.map #[] 0) → κ ⟨setk S.L o.dst (.v (.map (some b))), S.M, F', S.R, S.nx⟩) : Eff P n B st o S κ := by
  refine Eff.value fun a w hka hw => ?_
  have hR := hw.emp.swapR (r := PH.emp) (r' := PH.one w.heap.size (.map #[] 0)) (Rf := S.R) (w' := w.alloc (.map #[] 0)) (List.Perm.refl _) rfl rfl rfl (by simp) (fun b hb _ => Below.heap_alloc w _ b hb) (fun b u e => by
      simp only [PH.one] at e
      split at e
      · rename_i hb; cases e; subst hb; exact (MapKept.heap_alloc w _).1
      · cases e) (fun b hb => by
      right
      by_cases e : b = w.heap.size
      · omega
      · simp [PH.one, e] at hb) S.L S.nx
  obtain ⟨F', h1, h2, h3⟩ := hR.freezeR (.refl _) S.L S.nx
  refine ⟨.v (.map (some w.heap.size)), w.alloc (.map #[] 0), S.M, F', S.R, S.nx, ?_, h3, Stab.grow _ _ _ _ h1, h _ F' h1 (h2 _ _ (PH.one_self _ _))⟩
  obtain ⟨dst, op, type, pos, after, guard⟩ := o
  subst ho
  exact run_value' (by rfl) (run_makeMap (P := P) t w)
end
theorem each_set {α : Type} {R : α → List Value → Prop} {sz o : Nat} {v : Value} {f : α → α} (hsz : ∀ a c, R a c → c.length = sz) (ho : o < sz) (hR : ∀ a c, R a c → R (f a) (c.set o v)) : ∀ {l : List α} {xs : List Value} {i : Nat}, i < l.length → Each R l xs → Each R (l.modify i f) (xs.set (i * sz + o) v)
  | [], _, _, h, _ => absurd h (by simp)
  | a :: l, _, 0, _, ⟨c, ys, rfl, h1, h2⟩ => ⟨c.set o v, ys, by rw [Nat.zero_mul, Nat.zero_add, List.set_append_left _ _ (by rw [hsz _ _ h1]; exact ho)], hR a c h1, h2⟩
  | a :: l, _, i + 1, h, ⟨c, ys, rfl, h1, h2⟩ => by
    have hl := hsz _ _ h1
    refine ⟨c, ys.set (i * sz + o) v, ?_, h1, each_set hsz ho hR (by simpa using h) h2⟩
    rw [List.set_append_right _ _ (by rw [hl, Nat.succ_mul]; omega), hl]
    congr 2
    rw [Nat.succ_mul]; omega
theorem modify_snoc {α : Type} {f : α → α} {x : α} : ∀ {l : List α} {i : Nat}, i < l.length → (l ++ [x]).modify i f = l.modify i f ++ [x]
  | [], _, h => absurd h (by simp)
  | a :: l, 0, _ => rfl
  | a :: l, i + 1, h => by simp [modify_snoc (l := l) (i := i) (by simpa using h)]
theorem setA_put {s : Sc} {i : Nat} {a : Int} {x : Ins} (h : i < s.ins.length) : setA (putS s x) i a = putS (setA s i a) x := by
  simp only [setA, putS, modify_snoc h]
theorem empty_plc {F : PH} {b : Nat} (h : F b = some (.map #[] 0)) : PlcM F (.map (some b)) (fun _ => none) := ⟨b, #[], 0, [], rfl, h, mapIs_nil _, by simp, fun s => rfl⟩
theorem with0 (F : PH) (b : Nat) (vl : Value) (r : List ByteArray) (h : F b = some (.map #[] 0)) (hl : Strs F vl r) (hll : r.length ≤ 1000000000) :
    PFn Tryd.prog 110 [.map (some b), i64v 0, vl] F (fun r' F' => Plc F' r' r) :=
  Eng.Fn.mono (with_ F _ vl 0 _ r (empty_plc h) hl (by omega) hll) fun r' F' R' _ ⟨e, q⟩ => ⟨e, _, q, fun s hs => by
    unfold fo
    by_cases h0 : 0 ≤ findL r s <;> simp [h0]⟩
theorem plc_blank {F : PH} {v : Value} {l : List ByteArray} (h : Plc F v l) : Plc F v (l ++ [⟨#[]⟩]) := by
  obtain ⟨m, h1, h2⟩ := h
  refine ⟨m, h1, fun s hs => ?_⟩
  rw [h2 s hs, fo_append, if_neg (fun e => hs (by
    have := (findL_has [⟨#[]⟩] s).1 e
    simpa using this))]
/-- A field of an element of a row is changed: the row is a block of the call's own meanwhile. -/
theorem RowE.set {α : Type} {R : α → List Value → Prop} {g : Nat} {e : TypeId} {sz m c o i : Nat} {v : Value} {f : α → α} {cs : List Value} {l : List α} (hpos : 0 < sz) (hsz : ∀ a c, R a c → c.length = sz) (ho : o < sz) (hR : ∀ a c, R a c → R (f a) (c.set o v)) (hi : i < l.length)
    (h1 : cs.length = c * sz) (h2 : m ≤ c) (h3 : c ≤ maxLen) (h4 : Each R l (cs.take (m * sz))) (hm : m = l.length) : RowE (cell1 g e (cs.set (i * sz + o) v)) e sz R (.slice (some ⟨g, 0, none⟩) m c) (l.modify i f) := by
  refine ⟨_, Row.back (cs := cs.set (i * sz + o) v) (by simpa using h1) h2 h3, ?_⟩
  rw [List.take_set]
  exact each_set hsz ho hR hi h4
end Go.Proofs.YtoepmdbicdoieaaDoor.W
