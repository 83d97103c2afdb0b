/- Codes in memory; gen's scheme; an instruction that is put. -/
import Derived.Test.YtoepmdbicdoieaaDoorU1
import Derived.Test.YtoepmdbicdoieaaDoorED
import Derived.Test.YtoepmdbicdoieaaDoorTy
namespace Go.Proofs.YtoepmdbicdoieaaDoor.W
open Go Go.Eng Go.Proofs Go.Proofs.YtoepmdbicdoieaaDoor.T Go.Proofs.YtoepmdbicdoieaaDoor.K Go.Proofs.YtoepmdbicdoieaaDoor.U
set_option linter.unusedSimpArgs false
set_option linter.unusedVariables false
set_option maxRecDepth 100000
set_option maxHeartbeats 4000000
abbrev i64v (n : Int) : Value := .int .i64 n
def Ints (F : PH) (v : Value) (l : List Int) : Prop := Sl F 1 v l.length (l.map i64v)
theorem Ints.mono {F G : PH} {v : Value} {l : List Int} (h : Ints F v l) (hl : F.le G) : Ints G v l := Sl.mono h hl
def RMk (F : PH) (m : Mk) (cs : List Value) : Prop := ∃ v, cs = [i64v m.kind, i64v m.info, i64v m.n, v] ∧ Ints F v m.frm
def RArm (a : Arm) (cs : List Value) : Prop := cs = [i64v a.kind, i64v a.con, i64v a.n, i64v a.to]
def RIns (F : PH) (i : Ins) (cs : List Value) : Prop := ∃ vl vk vm va, cs = [i64v i.op, i64v i.a, i64v i.b, vl, vk, vm, va] ∧ Ints F vl i.list ∧ Ints F vk i.keep ∧ SlE F 4 (RMk F) vm i.makes ∧ SlE F 4 RArm va i.arms
def RInf (i : Inf) (cs : List Value) : Prop := cs = [i64v i.kind, i64v i.arity, i64v i.free, i64v i.to]
theorem RMk.len {F : PH} {m : Mk} {cs : List Value} (h : RMk F m cs) : cs.length = 4 := by obtain ⟨v, rfl, _⟩ := h; rfl
theorem RArm.len {m : Arm} {cs : List Value} (h : RArm m cs) : cs.length = 4 := by unfold RArm at h; subst h; rfl
theorem RIns.len {F : PH} {m : Ins} {cs : List Value} (h : RIns F m cs) : cs.length = 7 := by obtain ⟨_, _, _, _, rfl, _⟩ := h; rfl
theorem RInf.len {m : Inf} {cs : List Value} (h : RInf m cs) : cs.length = 4 := by unfold RInf at h; subst h; rfl
theorem RMk.mono {F G : PH} (hl : F.le G) {m : Mk} {cs : List Value} (h : RMk F m cs) : RMk G m cs := let ⟨v, h1, h2⟩ := h; ⟨v, h1, h2.mono hl⟩
theorem RIns.mono {F G : PH} (hl : F.le G) {m : Ins} {cs : List Value} (h : RIns F m cs) : RIns G m cs :=
  let ⟨vl, vk, vm, va, h1, h2, h3, h4, h5⟩ := h; ⟨vl, vk, vm, va, h1, h2.mono hl, h3.mono hl, h4.mono hl fun _ _ _ h => h.mono hl, h5.mono hl fun _ _ _ h => h⟩
/-- A row of elements that lie so. -/
def RowE {α : Type} (r : PH) (e : TypeId) (sz : Nat) (R : α → List Value → Prop) (v : Value) (l : List α) : Prop := ∃ xs, Row r e sz v xs ∧ Each R l xs
theorem RowE.mono {α : Type} {r : PH} {e : TypeId} {sz : Nat} {R R' : α → List Value → Prop} {v : Value} {l : List α} (h : RowE r e sz R v l) (hR : ∀ a ∈ l, ∀ c, R a c → R' a c) : RowE r e sz R' v l :=
  let ⟨xs, h1, h2⟩ := h; ⟨xs, h1, h2.mono hR⟩
theorem RowE.nil {α : Type} (e : TypeId) (sz : Nat) (R : α → List Value → Prop) : RowE PH.emp e sz R (.slice none 0 0) ([] : List α) := ⟨[], Row.nil e sz, rfl⟩
theorem each_snoc {α : Type} {R : α → List Value → Prop} : ∀ {l : List α} {xs ys : List Value} {a : α}, Each R l xs → R a ys → Each R (l ++ [a]) (xs ++ ys)
  | [], _, ys, _, h1, h2 => by simp only [Each] at h1; subst h1; exact ⟨ys, [], by simp, h2, rfl⟩
  | b :: l, _, ys, _, ⟨c, zs, rfl, h2, h3⟩, h => ⟨c, zs ++ ys, by simp, h2, each_snoc h3 h⟩
theorem each_append {α : Type} {R : α → List Value → Prop} : ∀ {l m : List α} {xs ys : List Value}, Each R l xs → Each R m ys → Each R (l ++ m) (xs ++ ys)
  | [], _, _, ys, h1, h2 => by simp only [Each] at h1; subst h1; simpa using h2
  | b :: l, _, _, ys, ⟨c, zs, rfl, h2, h3⟩, h => ⟨c, zs ++ ys, by simp, h2, each_append h3 h⟩
theorem RowE.sle {α : Type} {R : α → List Value → Prop} {r F : PH} {t : TypeId} {sz : Nat} {v : Value} {l : List α} (hpos : 0 < sz) (hsz : ∀ a c, R a c → c.length = sz) (hr : RowE r t sz R v l) (hl : r.le F) : SlE F sz R v l := by
  obtain ⟨xs, h1, h2⟩ := hr
  obtain ⟨m, h3, h4⟩ := h1.sl hl
  have := h2.len hsz
  obtain rfl : m = l.length := Nat.eq_of_mul_eq_mul_right hpos (by rw [← h3, this])
  exact ⟨xs, h4, h2⟩
/-- A row's length, as its slice tells it. -/
theorem RowE.val {α : Type} {R : α → List Value → Prop} {r : PH} {t : TypeId} {sz : Nat} {v : Value} {l : List α} (hpos : 0 < sz) (hsz : ∀ a c, R a c → c.length = sz) (hr : RowE r t sz R v l) : ∃ p c, v = .slice p l.length c ∧ l.length ≤ c ∧ c ≤ maxLen := by
  obtain ⟨xs, h1, h2⟩ := hr
  obtain ⟨p, m, c, rfl, h3, h4, h5⟩ := h1.len
  have := h2.len hsz
  obtain rfl : m = l.length := Nat.eq_of_mul_eq_mul_right hpos (by rw [← h3, this])
  exact ⟨p, c, rfl, h4, h5⟩
/-- A slice that is built of one element. -/
theorem src_one {F : PH} {b : Nat} {cs : List Value} {e : TypeId} (h : F b = some (.cells cs.toArray e (0, 0))) {sz : Nat} (hl : cs.length = sz) : Src F (some ⟨b, 0, none⟩) (1 * sz) cs := Src.blk h (by rw [hl, Nat.one_mul])
theorem w64 (n : Int) (h : -9223372036854775808 ≤ n ∧ n ≤ 9223372036854775807) : IntKind.i64.wrap n = n := IntWalk.i64_in n h
/-- gen's scheme: its cells. -/
abbrev schC (vc vg vi vn mc mt vq : Value) (big : Bool) : List Value := [vc, vg, vi, vn, mc, mt, vq, .bool big]
abbrev ptr (b : Nat) : Value := .pointer (some ⟨b, 0, none⟩)
theorem put (F : PH) (sb : Nat) (vc vg vi vn mc mt vq : Value) (big : Bool) (rn : PH) (l : List Ins) (x : Ins) (ic : List Value)
    (h1 : vc.oneCell' = true) (h2 : vg.oneCell' = true) (h3 : vi.oneCell' = true) (h4 : mc.oneCell' = true) (h5 : mt.oneCell' = true) (h6 : vq.oneCell' = true)
    (hx : RIns F x ic) (hr : RowE rn 89 7 (RIns F) vn l) (hb : l.length ≤ 100000000) (hb1 : 0 ≤ x.b ∧ x.b ≤ 1000000000) (hb2 : x.makes.length ≤ 1000000000) :
    Eng.Fn Tryd.prog 81 [ptr sb, .agg ic.toArray] F [cell1 sb 70 (schC vc vg vi vn mc mt vq big), rn]
      (fun v F' R' => v = i64v l.length ∧ ∃ vn' rn', R' = [cell1 sb 70 (schC vc vg vi vn' mc mt vq (big || decide (1000 < x.b + x.makes.length))), rn'] ∧ RowE rn' 89 7 (RIns F') vn' (l ++ [x])) := by
  obtain ⟨p, c, rfl, hm1, hm2⟩ := hr.val (by decide) (fun _ _ h => h.len)
  have hx' := hx
  obtain ⟨vl, vk, vm, va, rfl, hi1, hi2, hi3, hi4⟩ := hx
  obtain ⟨xm, ⟨pm, cm, rfl, hc1, hc2, hc3⟩, he⟩ := hi3
  obtain ⟨pl, cl, rfl, _, _, _⟩ := hi1
  obtain ⟨pk, ck, rfl, _, _, _⟩ := hi2
  obtain ⟨xa, ⟨pa, ca, rfl, _, _, _⟩, _⟩ := hi4
  obtain ⟨xs, hrow, hes⟩ := hr
  have hxs := hes.len (fun _ _ h => h.len)
  have e1 : IntKind.i64.wrap (x.b + (x.makes.length : Int)) = x.b + x.makes.length := w64 _ (by omega)
  refine SFn.intro (n := 45) (ts := [4]) Tryd.func81 rfl rfl rfl rfl (by simp) fun B hB => VC.go 2 ?_
  simp only [push_cast, ↓reduceIte, Nat.reduceEqDiff, Nat.reduceAdd, Nat.reduceMul, Nat.reduceSub, Nat.reduceLT, Nat.reduceLeDiff, reduceCtorEq, Nat.reduceMod, Int.reduceEq, Int.reduceLT, Int.reduceLE, Int.reduceToNat, dite_true]
  intro b
  refine VC.seq (VC.cutW (ι := Unit) (fun _ => [(0, .o 0 sb 0), (3, .o 1 b 0)]) (fun _ => [⟨0, sb, 70, schC vc vg vi (.slice p l.length c) mc mt vq (big || decide (1000 < x.b + x.makes.length))⟩, ⟨1, b, 89, [i64v x.op, i64v x.a, i64v x.b, .slice pl x.list.length cl, .slice pk x.keep.length ck, .slice pm x.makes.length cm, .slice pa x.arms.length ca]⟩]) (fun _ => F) (fun _ => [rn]) (fun _ => True) (fun G hG => ?_) fun _ _ => ?_)
  · refine VC.go 100 ?_
    cases big with
    | true =>
      simp only [push_cast, ↓reduceIte, Nat.reduceEqDiff, Nat.reduceAdd, Nat.reduceMul, Nat.reduceSub, Nat.reduceLT, Nat.reduceLeDiff, reduceCtorEq, Nat.reduceMod, Int.reduceEq, Int.reduceLT, Int.reduceLE, Int.reduceToNat, dite_true, e1]
      exact hG () _ trivial (by simp [subk, Eng.look]) (by simp) rfl (subR_refl _)
    | false =>
      by_cases g1 : 1000 < x.b
      · have g2 : 1000 < x.b + (x.makes.length : Int) := by omega
        simp only [push_cast, ↓reduceIte, Nat.reduceEqDiff, Nat.reduceAdd, Nat.reduceMul, Nat.reduceSub, Nat.reduceLT, Nat.reduceLeDiff, reduceCtorEq, Nat.reduceMod, Int.reduceEq, Int.reduceLT, Int.reduceLE, Int.reduceToNat, dite_true, e1, g1, g2]
        exact hG () _ trivial (by simp [subk, Eng.look]) (by simp [g2]) rfl (subR_refl _)
      by_cases g2 : 1000 < x.b + (x.makes.length : Int)
      · simp only [push_cast, ↓reduceIte, Nat.reduceEqDiff, Nat.reduceAdd, Nat.reduceMul, Nat.reduceSub, Nat.reduceLT, Nat.reduceLeDiff, reduceCtorEq, Nat.reduceMod, Int.reduceEq, Int.reduceLT, Int.reduceLE, Int.reduceToNat, dite_true, e1, g1, g2]
        exact hG () _ trivial (by simp [subk, Eng.look]) (by simp [g2]) rfl (subR_refl _)
      · simp only [push_cast, ↓reduceIte, Nat.reduceEqDiff, Nat.reduceAdd, Nat.reduceMul, Nat.reduceSub, Nat.reduceLT, Nat.reduceLeDiff, reduceCtorEq, Nat.reduceMod, Int.reduceEq, Int.reduceLT, Int.reduceLE, Int.reduceToNat, dite_true, e1, g1, g2]
        exact hG () _ trivial (by simp [subk, Eng.look]) (by simp [g2]) rfl (subR_refl _)
  refine VC.seq (VC.draw (.q 0 (.q 1 (.q 2 (.q 3 (.q 4 (.q 5 (.q 6 (.e 7 (.e 8 (.q 9 (.q 10 (.q 11 (.es 12 [9, 10] (.done)))))))))))))) mixed (by rfl) ?_)
  simp only [push_cast, ↓reduceIte, Nat.reduceEqDiff, Nat.reduceAdd, Nat.reduceMul, Nat.reduceSub, Nat.reduceLT, Nat.reduceLeDiff, reduceCtorEq, Nat.reduceMod, Int.reduceEq, Int.reduceLT, Int.reduceLE, Int.reduceToNat, dite_true]
  intro b2 F2 hF2 hb2'
  refine Eff.append (t := 29) (e := 89) rfl rfl rfl ty29 rfl ty89 rfl (by decide) rfl rfl (.refl _) hrow (src_one hb2' rfl) (by simp [Value.oneCell']) (by simp [hxs]; omega) (by decide) fun v2 r2 hr2 => ?_
  obtain ⟨p2, m2, c2, rfl, q1, q2, q3⟩ := hr2.len
  simp only [push_cast, ↓reduceIte, Nat.reduceEqDiff, Nat.reduceAdd, Nat.reduceMul, Nat.reduceSub, Nat.reduceLT, Nat.reduceLeDiff, reduceCtorEq, Nat.reduceMod, Int.reduceEq, Int.reduceLT, Int.reduceLE, Int.reduceToNat, dite_true, hb2']
  have hm2 : m2 = l.length + 1 := by
    rw [List.length_append, hxs] at q1
    simp at q1
    omega
  subst hm2
  have e2 : IntKind.i64.wrap ((l.length : Int) + 1 - 1) = l.length := (w64 _ (by omega)).trans (by omega)
  refine VC.go 100 ?_
  simp only [push_cast, ↓reduceIte, Nat.reduceEqDiff, Nat.reduceAdd, Nat.reduceMul, Nat.reduceSub, Nat.reduceLT, Nat.reduceLeDiff, reduceCtorEq, Nat.reduceMod, Int.reduceEq, Int.reduceLT, Int.reduceLE, Int.reduceToNat, dite_true, e2]
  refine RetOk.r (vs := [_]) rfl (RetR.ownSub (i := 0) rfl (List.Sublist.refl _)) ⟨rfl, _, _, rfl, ?_⟩
  exact ⟨_, hr2, each_snoc (hes.mono fun _ _ _ h => h.mono hF2) (hx'.mono hF2)⟩
end Go.Proofs.YtoepmdbicdoieaaDoor.W
