/- Where names stand: maps of names. -/
import Derived.Test.YtoepmdbicdoieaaDoorW0
namespace Go.Proofs.YtoepmdbicdoieaaDoor.W
open Go Go.Eng Go.Proofs Go.Proofs.YtoepmdbicdoieaaDoor.T Go.Proofs.YtoepmdbicdoieaaDoor.K Go.Proofs.YtoepmdbicdoieaaDoor.U
set_option linter.unusedSimpArgs false
set_option linter.unusedVariables false
set_option maxRecDepth 100000
set_option maxHeartbeats 4000000
theorem findL_ge (l : List ByteArray) (s : ByteArray) : -1 ≤ findL l s := by
  induction l with
  | nil => simp [findL]
  | cons x l ih => simp only [findL]; split <;> (try split) <;> omega
theorem findL_lt (l : List ByteArray) (s : ByteArray) : findL l s < l.length := by
  induction l with
  | nil => simp [findL]
  | cons x l ih => simp only [findL, List.length_cons]; split <;> (try split) <;> omega
theorem findL_append (a b : List ByteArray) (s : ByteArray) : findL (a ++ b) s = if 0 ≤ findL b s then a.length + findL b s else findL a s := by
  induction a with
  | nil =>
    have := findL_ge b s
    simp only [List.nil_append, findL, List.length_nil]
    split <;> omega
  | cons x a ih =>
    have hb := findL_ge b s
    have ha := findL_ge a s
    simp only [List.cons_append, findL, ih, List.length_cons]
    by_cases h : 0 ≤ findL b s
    · simp only [h, if_true]; split <;> omega
    · simp only [h, if_false]
theorem findL_snoc (l : List ByteArray) (x s : ByteArray) : findL (l ++ [x]) s = if x = s then (l.length : Int) else findL l s := by
  rw [findL_append]
  simp only [findL]
  by_cases h : x = s <;> simp [h]
theorem findL_has (l : List ByteArray) (s : ByteArray) : 0 ≤ findL l s ↔ s ∈ l := by
  induction l with
  | nil => simp [findL]
  | cons x l ih =>
    have := findL_ge l s
    simp only [findL, List.mem_cons]
    by_cases h : s ∈ l
    · have := ih.2 h
      rw [if_pos this]; simp [h]; omega
    · have h2 : ¬ 0 ≤ findL l s := fun e => h (ih.1 e)
      rw [if_neg h2]
      by_cases h3 : x = s
      · simp [h3]
      · rw [if_neg h3]; simp [h, Ne.symm h3]
/-- A map of names to numbers, that never turns. -/
def PlcM (F : PH) (v : Value) (m : ByteArray → Option Int) : Prop :=
  ∃ mb es c kv, v = .map (some mb) ∧ F mb = some (.map es c) ∧ MapIs Value.string es c kv ∧ (kv.map Prod.fst).Nodup ∧ ∀ s, mget kv s = (m s).map i64v
theorem PlcM.mono {F G : PH} (hl : F.le G) {v : Value} {m : ByteArray → Option Int} (h : PlcM F v m) : PlcM G v m :=
  let ⟨mb, es, c, kv, h1, h2, h3⟩ := h; ⟨mb, es, c, kv, h1, hl _ _ h2, h3⟩
theorem mput_keys {kv : List (ByteArray × Value)} {a : ByteArray} {v : Value} (h : (kv.map Prod.fst).Nodup) : ((mput kv a v).map Prod.fst).Nodup ∧ ∀ x, x ∈ (mput kv a v).map Prod.fst → x = a ∨ x ∈ kv.map Prod.fst := by
  induction kv with
  | nil => simp [mput]
  | cons p l ih =>
    rw [List.map_cons, List.nodup_cons] at h
    simp only [mput]
    split
    · rename_i e
      refine ⟨by rw [List.map_cons, List.nodup_cons]; exact ⟨e ▸ h.1, h.2⟩, fun x hx => ?_⟩
      rw [List.map_cons] at hx ⊢
      rcases List.mem_cons.1 hx with hx | hx
      · exact .inl hx
      · exact .inr (List.mem_cons_of_mem _ hx)
    · rename_i e
      obtain ⟨h1, h2⟩ := ih h.2
      refine ⟨?_, fun x hx => ?_⟩
      · rw [List.map_cons, List.nodup_cons]
        refine ⟨fun hm => ?_, h1⟩
        rcases h2 _ hm with hm | hm
        · exact e hm
        · exact h.1 hm
      · rw [List.map_cons] at hx ⊢
        rcases List.mem_cons.1 hx with hx | hx
        · exact .inr (by rw [hx]; exact List.mem_cons_self)
        · rcases h2 x hx with hx | hx
          · exact .inl hx
          · exact .inr (List.mem_cons_of_mem _ hx)
theorem mget_mem {kv : List (ByteArray × Value)} (h : (kv.map Prod.fst).Nodup) (s : ByteArray) (v : Value) : mget kv s = some v ↔ (s, v) ∈ kv := by
  induction kv with
  | nil => simp [mget]
  | cons p l ih =>
    rw [List.map_cons, List.nodup_cons] at h
    simp only [mget]
    by_cases e : p.1 = s
    · rw [if_pos e]
      constructor
      · intro h2; cases h2; rw [← e]; exact List.mem_cons_self
      · intro h2
        rcases List.mem_cons.1 h2 with h2 | h2
        · rw [← h2]
        · exact absurd (List.mem_map.2 ⟨_, h2, e.symm⟩) h.1
    · rw [if_neg e, ih h.2]
      constructor
      · exact List.mem_cons_of_mem _
      · intro h2
        rcases List.mem_cons.1 h2 with h2 | h2
        · rw [← h2] at e; exact absurd rfl e
        · exact h2
/-- The entries of a map, as its list of keys tells them. -/
theorem entry_iff {es : Array MapEntry} {kv : List (ByteArray × Value)} (h : MapAs Value.string es kv) (s : ByteArray) (v : Value) : (s, v) ∈ kv ↔ ∃ e ∈ es.toList, e.key = .string s ∧ e.val = v := by
  unfold MapAs at h
  constructor
  · intro hm
    have : (Value.string s, v) ∈ es.toList.map (fun e => (e.key, e.val)) := by rw [h]; exact List.mem_map.2 ⟨_, hm, rfl⟩
    obtain ⟨e, h1, h2⟩ := List.mem_map.1 this
    simp only [Prod.mk.injEq] at h2
    exact ⟨e, h1, h2⟩
  · rintro ⟨e, h1, h2, h3⟩
    have : (Value.string s, v) ∈ kv.map (fun p => (Value.string p.1, p.2)) := by rw [← h]; exact List.mem_map.2 ⟨e, h1, by rw [h2, h3]⟩
    obtain ⟨p, k1, k2⟩ := List.mem_map.1 this
    simp only [Prod.mk.injEq, Value.string.injEq] at k2
    obtain ⟨a, b⟩ := p
    obtain ⟨rfl, rfl⟩ := k2
    exact k1
theorem entry_key {es : Array MapEntry} {kv : List (ByteArray × Value)} (h : MapAs Value.string es kv) {e : MapEntry} (he : e ∈ es.toList) : ∃ s, e.key = .string s := by
  unfold MapAs at h
  have : (e.key, e.val) ∈ kv.map (fun p => (Value.string p.1, p.2)) := by rw [← h]; exact List.mem_map.2 ⟨e, he, rfl⟩
  obtain ⟨p, _, k2⟩ := List.mem_map.1 this
  simp only [Prod.mk.injEq] at k2
  exact ⟨_, k2.1.symm⟩
/-- What was copied so far. -/
def Part (es : Array MapEntry) (seen : Array Nat) (kv : List (ByteArray × Value)) : Prop := (kv.map Prod.fst).Nodup ∧ ∀ s v, (s, v) ∈ kv ↔ ∃ e ∈ es.toList, e.key = .string s ∧ e.val = v ∧ seen.contains e.born = true
theorem mem_mput {kv : List (ByteArray × Value)} (h : (kv.map Prod.fst).Nodup) {a s : ByteArray} {v w : Value} : (s, w) ∈ mput kv a v ↔ (a = s ∧ v = w) ∨ (a ≠ s ∧ (s, w) ∈ kv) := by
  rw [← mget_mem (mput_keys h).1, mget_mput, ← mget_mem h]
  by_cases e : a = s <;> simp [e]
theorem Part.step {es : Array MapEntry} {seen : Array Nat} {kv kv0 : List (ByteArray × Value)} {e : MapEntry} {s : ByteArray} {c : Nat} (h : Part es seen kv) (hm : MapIs Value.string es c kv0) (hn : (kv0.map Prod.fst).Nodup) (he : e ∈ es.toList) (hs : e.key = .string s) : Part es (seen.push e.born) (mput kv s e.val) := by
  refine ⟨(mput_keys h.1).1, fun t v => ?_⟩
  rw [mem_mput h.1, h.2]
  have hpush : ∀ x : MapEntry, (seen.push e.born).contains x.born = (seen.contains x.born || x.born == e.born) := fun x => contains_push _ _ _
  constructor
  · rintro (⟨rfl, rfl⟩ | ⟨hne, e', k1, k2, k3, k4⟩)
    · exact ⟨e, he, hs, rfl, by rw [hpush]; simp⟩
    · exact ⟨e', k1, k2, k3, by rw [hpush, k4]; rfl⟩
  · rintro ⟨e', k1, k2, k3, k4⟩
    by_cases hst : s = t
    · subst hst
      refine .inl ⟨rfl, ?_⟩
      have m1 := (mget_mem hn s e.val).2 ((entry_iff hm.1 s e.val).2 ⟨e, he, hs, rfl⟩)
      have m2 := (mget_mem hn s v).2 ((entry_iff hm.1 s v).2 ⟨e', k1, k2, k3⟩)
      rw [m1] at m2
      exact Option.some.inj m2
    · refine .inr ⟨hst, e', k1, k2, k3, ?_⟩
      rw [hpush] at k4
      rcases Bool.or_eq_true _ _ ▸ k4 with k4 | k4
      · exact k4
      · have hb : e'.born = e.born := by simpa using k4
        have : e' = e := born_inj hm.2.2 k1 he hb
        subst this
        rw [hs] at k2
        exact absurd (Value.string.inj k2) hst
/-- All was copied. -/
theorem Part.all {es : Array MapEntry} {seen : Array Nat} {kv kv0 : List (ByteArray × Value)} {c : Nat} (h : Part es seen kv) (hm : MapIs Value.string es c kv0) (hn : (kv0.map Prod.fst).Nodup) (h0 : (leftOf es seen).size = 0) (s : ByteArray) : mget kv s = mget kv0 s := by
  have key : ∀ v, mget kv s = some v ↔ mget kv0 s = some v := fun v => by
    rw [mget_mem h.1, h.2, mget_mem hn, entry_iff hm.1]
    exact ⟨fun ⟨e, k1, k2, k3, _⟩ => ⟨e, k1, k2, k3⟩, fun ⟨e, k1, k2, k3⟩ => ⟨e, k1, k2, k3, all_seen es seen h0 e k1⟩⟩
  cases e : mget kv s with
  | some v => exact ((key v).1 e).symm
  | none =>
    cases e2 : mget kv0 s with
    | none => rfl
    | some v => rw [(key v).2 e2] at e; cases e
theorem withU (F : PH) (v vl : Value) (frm : Int) (m : ByteArray → Option Int) (l : List ByteArray) (h : PlcM F v m) (hl : Strs F vl l) (hf : 0 ≤ frm ∧ frm ≤ 1000000000) (hll : l.length ≤ 1000000000) :
    Eng.Fn Tryd.prog 110 [v, i64v frm, vl] F [] (fun r F' R' => ∃ ob es c kv, r = .map (some ob) ∧ R' = [PH.one ob (.map es c)] ∧ MapIs Value.string es c kv ∧ (kv.map Prod.fst).Nodup ∧ ∀ s, mget kv s = ((if 0 ≤ findL l s then some (frm + findL l s) else m s) : Option Int).map i64v) := by
  obtain ⟨mb, es0, c0, kv0, rfl, hF, hm0, hn0, hg0⟩ := h
  obtain ⟨pl, cl, rfl, hl1, hl2, hl3⟩ := hl
  refine Fn.intro (n := 37) (ts := [6]) Tryd.func110 rfl rfl rfl rfl (by simp) fun B hB => VC.go 100 ?_
  simp only [push_cast, ↓reduceIte, Nat.reduceEqDiff, Nat.reduceAdd, Nat.reduceMul, Nat.reduceSub, Nat.reduceLT, Nat.reduceLeDiff, reduceCtorEq, Nat.reduceMod, Int.reduceEq, Int.reduceLT, Int.reduceLE, Int.reduceToNat, dite_true]
  refine Eff.makeMap rfl fun ob => ?_
  simp only [push_cast, ↓reduceIte, Nat.reduceEqDiff, Nat.reduceAdd, Nat.reduceMul, Nat.reduceSub, Nat.reduceLT, Nat.reduceLeDiff, reduceCtorEq, Nat.reduceMod, Int.reduceEq, Int.reduceLT, Int.reduceLE, Int.reduceToNat, dite_true]
  refine Eff.range rfl ty122 rfl rfl (.inl hF) fun q => ?_
  simp only [push_cast, ↓reduceIte, Nat.reduceEqDiff, Nat.reduceAdd, Nat.reduceMul, Nat.reduceSub, Nat.reduceLT, Nat.reduceLeDiff, reduceCtorEq, Nat.reduceMod, Int.reduceEq, Int.reduceLT, Int.reduceLE, Int.reduceToNat, dite_true]
  refine VC.loopW (ι := Array MapEntry × Nat × List (ByteArray × Value) × Array Nat) (fun _ => [(14, .v (ptr q)), (7, .v (.map (some ob))), (1, .v (i64v frm)), (2, .v (.slice pl l.length cl))]) (fun _ => []) (fun _ => F)
    (fun i => [PH.one q (.mapIter (some mb) c0 i.2.2.2 c0), PH.one ob (.map i.1 i.2.1)]) (fun i => MapIs Value.string i.1 i.2.1 i.2.2.1 ∧ Part es0 i.2.2.2 i.2.2.1) (fun i => (leftOf es0 i.2.2.2).size) (#[], 0, [], #[]) ⟨mapIs_nil _, by simp [Part]⟩ (by simp [subk, Eng.look]) (List.nil_sublist _) rfl (subR_refl _) ?_
  rintro ⟨es, c, kv, seen⟩ ⟨hm, hp⟩ G hG
  dsimp only at hm hp hG ⊢
  refine VC.go 100 ?_
  simp only [push_cast, ↓reduceIte, Nat.reduceEqDiff, Nat.reduceAdd, Nat.reduceMul, Nat.reduceSub, Nat.reduceLT, Nat.reduceLeDiff, reduceCtorEq, Nat.reduceMod, Int.reduceEq, Int.reduceLT, Int.reduceLE, Int.reduceToNat, dite_true]
  refine Eff.next rfl rfl (.refl _) hF hm0.2 (fun hz => ?_) fun e he => ?_
  · simp only [push_cast, ↓reduceIte, Nat.reduceEqDiff, Nat.reduceAdd, Nat.reduceMul, Nat.reduceSub, Nat.reduceLT, Nat.reduceLeDiff, reduceCtorEq, Nat.reduceMod, Int.reduceEq, Int.reduceLT, Int.reduceLE, Int.reduceToNat, dite_true]
    have hall := hp.all hm0 hn0 hz
    refine VC.loopW (ι := Nat × Array MapEntry × Nat × List (ByteArray × Value)) (fun i => [(25, .v (i64v i.1)), (24, .v (i64v l.length)), (23, .v (.slice pl l.length cl)), (7, .v (.map (some ob))), (1, .v (i64v frm))]) (fun _ => []) (fun _ => F) (fun i => [PH.one ob (.map i.2.1 i.2.2.1)])
      (fun i => i.1 ≤ l.length ∧ MapIs Value.string i.2.1 i.2.2.1 i.2.2.2 ∧ (i.2.2.2.map Prod.fst).Nodup ∧ ∀ s, mget i.2.2.2 s = ((if 0 ≤ findL (l.take i.1) s then some (frm + findL (l.take i.1) s) else m s) : Option Int).map i64v) (fun i => l.length - i.1) (0, es, c, kv)
      ⟨Nat.zero_le _, hm, hp.1, fun s => by rw [hall, hg0]; simp [findL]⟩ (by simp [subk, Eng.look]) (List.nil_sublist _) rfl (subR_cons (subR_refl _)) ?_
    rintro ⟨k, es1, c1, kv1⟩ ⟨hk, hm1, hn1, hg1⟩ G1 hG1
    dsimp only at hk hm1 hn1 hg1 hG1 ⊢
    refine VC.go 100 ?_
    by_cases h : k < l.length
    case neg =>
      have h' : ¬ (k : Int) < (l.length : Int) := by omega
      simp only [push_cast, ↓reduceIte, Nat.reduceEqDiff, Nat.reduceAdd, Nat.reduceMul, Nat.reduceSub, Nat.reduceLT, Nat.reduceLeDiff, reduceCtorEq, Nat.reduceMod, Int.reduceEq, Int.reduceLT, Int.reduceLE, Int.reduceToNat, dite_true, h']
      rw [List.take_of_length_le (by omega)] at hg1
      exact RetOk.r (vs := [_]) rfl (RetR.refl _) ⟨ob, es1, c1, kv1, rfl, rfl, hm1, hn1, hg1⟩
    have h' : (k : Int) < (l.length : Int) := by omega
    have h0 : (0 : Int) ≤ (k : Int) := by omega
    obtain ⟨a, rfl, ha⟩ := hl3.elem1 (i := k) (v := .string l[k]) (by simp [h])
    have e2 : IntKind.i64.wrap ((k : Int) + 1) = ((k + 1 : Nat) : Int) := wadd k h (Nat.le_trans hl1 hl2)
    have e3 : IntKind.i64.wrap (frm + (k : Int)) = frm + k := w64 _ (by omega)
    simp only [push_cast, ↓reduceIte, Nat.reduceEqDiff, Nat.reduceAdd, Nat.reduceMul, Nat.reduceSub, Nat.reduceLT, Nat.reduceLeDiff, reduceCtorEq, Nat.reduceMod, Int.reduceEq, Int.reduceLT, Int.reduceLE, Int.reduceToNat, dite_true, h', h0, ha, e3]
    refine Eff.updateI keyStr rfl rfl ty122 rfl Tryd.underlying9 rfl rfl rfl (List.Perm.refl _) hm1 fun es2 c2 hm2 => ?_
    simp only [push_cast, ↓reduceIte, Nat.reduceEqDiff, Nat.reduceAdd, Nat.reduceMul, Nat.reduceSub, Nat.reduceLT, Nat.reduceLeDiff, reduceCtorEq, Nat.reduceMod, Int.reduceEq, Int.reduceLT, Int.reduceLE, Int.reduceToNat, dite_true, e2]
    refine hG1 (k + 1, es2, c2, _) _ ⟨by omega, hm2, (mput_keys hn1).1, fun s => ?_⟩ (by simp; omega) (by simp [subk, Eng.look]) (List.Sublist.refl _) rfl (subR_refl _)
    rw [mget_mput, List.take_succ_eq_append_getElem h, findL_snoc]
    by_cases hs : l[k] = s
    · simp [hs, List.length_take, Nat.min_eq_left (Nat.le_of_lt h)]
    · rw [if_neg hs, if_neg hs, hg1]
  · obtain ⟨hem, hes⟩ := mem_left he
    obtain ⟨s, hs⟩ := entry_key hm0.1 hem
    simp only [push_cast, ↓reduceIte, Nat.reduceEqDiff, Nat.reduceAdd, Nat.reduceMul, Nat.reduceSub, Nat.reduceLT, Nat.reduceLeDiff, reduceCtorEq, Nat.reduceMod, Int.reduceEq, Int.reduceLT, Int.reduceLE, Int.reduceToNat, dite_true]
    refine Eff.entry rfl rfl (.refl _) hF hm0.2 hem ?_
    simp only [push_cast, ↓reduceIte, Nat.reduceEqDiff, Nat.reduceAdd, Nat.reduceMul, Nat.reduceSub, Nat.reduceLT, Nat.reduceLeDiff, reduceCtorEq, Nat.reduceMod, Int.reduceEq, Int.reduceLT, Int.reduceLE, Int.reduceToNat, dite_true, hs]
    refine Eff.updateI (a := s) keyStr rfl rfl ty122 rfl Tryd.underlying9 rfl rfl rfl (List.Perm.swap _ _ _) hm fun es2 c2 hm2 => ?_
    simp only [push_cast, ↓reduceIte, Nat.reduceEqDiff, Nat.reduceAdd, Nat.reduceMul, Nat.reduceSub, Nat.reduceLT, Nat.reduceLeDiff, reduceCtorEq, Nat.reduceMod, Int.reduceEq, Int.reduceLT, Int.reduceLE, Int.reduceToNat, dite_true]
    exact hG (es2, c2, _, seen.push e.born) _ ⟨hm2, hp.step hm0 hn0 hem hs⟩ (left_shrinks es0 seen e he) (by simp [subk, Eng.look]) (List.nil_sublist _) rfl (subR_perm (List.Perm.swap _ _ _))
end Go.Proofs.YtoepmdbicdoieaaDoor.W
