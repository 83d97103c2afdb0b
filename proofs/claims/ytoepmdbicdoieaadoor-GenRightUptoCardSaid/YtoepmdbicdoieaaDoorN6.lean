/- What is laid of a right expression is right. -/
import Derived.Test.YtoepmdbicdoieaaDoorN5
namespace Go.Proofs.YtoepmdbicdoieaaDoor.N
open Go Go.Eng Go.Proofs Go.Proofs.YtoepmdbicdoieaaDoor.T Go.Proofs.YtoepmdbicdoieaaDoor.K Go.Proofs.YtoepmdbicdoieaaDoor.U
open V (lessL onceL atomsL within withinB withinL withinBs withinKid withinLs classOf fieldOf inner)
open W (findL_has)
set_option linter.unusedSimpArgs false
set_option linter.unusedVariables false
/-- Some alternatives are laid, with so many that are kept. -/
structure Als (C : Env) (n : Nat) (m : Nat) (t t' : Ars) : Prop where
  grow : Grow C.ds t.s t'.s
  le : t.s.ins.length ≤ t'.s.ins.length
  pre : ∀ i, i < t.s.ins.length → t'.s.ins[i]? = t.s.ins[i]?
  ok : ∀ f, FinC C f t'.s t.s.ins.length → ∀ i x, t.s.ins.length ≤ i → t'.s.ins[i]? = some x → InsOK f i x
  arms : ∃ new, t'.arms = t.arms ++ new ∧ new.length = m ∧ ∀ f, FinC C f t'.s t.s.ins.length → ∀ a ∈ new, ArmOK f (n + 1 : Nat) a
theorem armIn_len (keep : List ByteArray) (k : Int) (s : ByteArray) (vs : List ByteArray) : (armIn keep k s vs).length = keep.length + 1 + (if k = 1 then vs.length else 0) := by
  unfold armIn; split
  · simp; omega
  · split <;> simp
theorem letIn_len (bs : List Bind) (l : List ByteArray) : (letIn bs l).length = l.length + (preM bs).length + bs.length := by simp [letIn, blanks]; omega
theorem intsS_big {s : Sc} {ats : List (ByteArray × Int)} {b : Int} (h : (intsS s ats b).big = false) : s.big = false := by
  unfold intsS at h
  split at h
  · exact h
  · exact (put_big h).1
theorem ints_laid {C : Env} {s : Sc} {ats : List (ByteArray × Int)} {b : Nat} {i : Ins} (hb : i.b = (b : Int) + (nums ats).length) (hbig : (putS (intsS s ats b) i).big = false)
    (h : ∀ f, FinC C f (putS (intsS s ats b) i) (intsS s ats b).ins.length → InsOK f (intsS s ats b).ins.length i) : Laid C b s (putS (intsS s ats b) i) := by
  have h1 := Laid.last (C := C) (b := i.b) rfl h
  unfold intsS at h1 hbig ⊢
  split at h1
  · rename_i hn
    rw [if_pos hn]
    rw [hb, hn] at h1
    simpa using h1
  · rename_i hn
    rw [if_neg hn] at hbig ⊢
    have hb2 := (put_big (put_big hbig).1).2
    refine Laid.then rfl h1 fun f hf hj => ?_
    refine ⟨Int.natCast_nonneg _, hb2, .inl ⟨rfl, fun e => hn (by show (insL b (nums ats)).makes.length = 0; rw [e]; rfl), fun k hk => mk_num (nums_kind hk), ?_⟩⟩
    obtain ⟨j, hj1, hj2⟩ := hj
    exact ⟨j, hj1, by rw [hj2, hb]; rfl⟩
mutual
theorem laidE (C : Env) : ∀ (e : Exp) (inn l : List ByteArray) (s : Sc), Rt C.ds inn e → ¬ (⟨#[]⟩ : ByteArray) ∈ inn → okX C l e → (layE C e l s).big = false → Laid C l.length s (layE C e l s)
  | .mk k a nm n ats bs es ls, inn, l, s, hr, hi, ho, hbig => by
    have hs := layE_was hbig
    have hs' : ¬ s.big = true := by rw [hs]; decide
    simp only [Rt] at hr
    obtain ⟨r0, r1, r2, r3, r5, r6⟩ := hr
    simp only [okX] at ho
    obtain ⟨o1, o2, o3, o5, o6⟩ := ho
    simp only [layE] at hbig ⊢
    rw [if_neg hs'] at hbig ⊢
    by_cases k4 : k = 4
    · rw [if_pos k4] at hbig ⊢
      have b1 := put_big hbig
      have b2 := put_big b1.1
      refine Laid.then rfl (Laid.last (b := (l.length : Int) + 1) rfl fun f hf => ⟨by show (0 : Int) ≤ l.length + 1; omega, b1.2, .inr (.inr (.inl ⟨rfl, ?_⟩))⟩) fun f hf hj => ⟨Int.natCast_nonneg _, b2.2, .inl ⟨rfl, by simp [insL], fun k hk => ?_, hj⟩⟩
      · exact ⟨by show (l.length : Int) < l.length + 1; omega, by show -(f.globals.length : Int) ≤ (l.length : Int); omega⟩
      · simp only [insL, List.mem_singleton] at hk
        subst hk
        exact mk_num ⟨rfl, rfl⟩
    rw [if_neg k4] at hbig ⊢
    by_cases k2 : k = 2
    · rw [if_pos k2] at hbig ⊢
      have b1 := put_big hbig
      have b2 := put_big b1.1
      have hm : (conM C nm ats l).length = (nums ats).length + 1 := by simp [conM]
      refine Laid.then rfl (Laid.last (b := (l.length : Int) + (conM C nm ats l).length) rfl fun f hf => ⟨by show (0 : Int) ≤ l.length + (conM C nm ats l).length; omega, b1.2, .inr (.inr (.inl ⟨rfl, ?_⟩))⟩) fun f hf hj => ⟨Int.natCast_nonneg _, b2.2, .inl ⟨rfl, by simp [insL, conM], fun k hk => ?_, hj⟩⟩
      · exact ⟨by show (l.length : Int) + (conM C nm ats l).length - 1 < l.length + (conM C nm ats l).length; omega, by show -(f.globals.length : Int) ≤ (l.length : Int) + (conM C nm ats l).length - 1; omega⟩
      · simp only [insL, conM] at hk
        rcases List.mem_append.1 hk with hk | hk
        · exact mk_num (nums_kind hk)
        obtain rfl := List.mem_singleton.1 hk
        obtain ⟨i, x, q1, q2, q3⟩ := conD_at (r2 k2).1
        refine ⟨.inr (.inl ⟨rfl, i, x, q1, by rw [hf.cons]; exact q2, by rw [q3]; simp [atoms_len]⟩), fun y hy => ?_⟩
        rw [hf.globals]
        refine atoms_ins (o2 k2) ?_ (Int.natCast_nonneg _) ?_ y hy
        · show (l.length : Int) ≤ l.length + (conM C nm ats l).length; omega
        · show (l.length : Int) + (nums ats).length ≤ l.length + (conM C nm ats l).length; omega
    rw [if_neg k2] at hbig ⊢
    by_cases k1 : k = 1
    · rw [if_pos k1] at hbig ⊢
      have b1 := put_big hbig
      refine ints_laid rfl hbig fun f hf => ⟨by show (0 : Int) ≤ l.length + (nums ats).length; omega, b1.2, .inr (.inl ⟨rfl, ?_, fun y hy => ?_, ?_⟩)⟩
      · show (atomsP C l ats l.length).length ≤ 8
        rw [atoms_len]; exact (r1 k1).2.1
      · rw [hf.globals]
        refine atoms_ins (o1 k1).2 ?_ (Int.natCast_nonneg _) (Int.le_refl _) y hy
        show (l.length : Int) ≤ l.length + (nums ats).length; omega
      · rw [hf.globals]
        refine place_in (o1 k1).1 ?_
        show (l.length : Int) ≤ l.length + (nums ats).length; omega
    rw [if_neg k1] at hbig ⊢
    by_cases k3 : k = 3
    · rw [if_pos k3] at hbig ⊢
      have b1 := put_big hbig
      have hp := findP_le nm
      obtain ⟨q1, q2, q3⟩ := r3 k3
      refine ints_laid rfl hbig fun f hf => ⟨by show (0 : Int) ≤ l.length + (nums ats).length; omega, b1.2, .inr (.inr (.inr (.inr (.inr ⟨rfl, ?_, ?_, ?_, fun y hy => ?_⟩))))⟩
      · show 1 ≤ findP nm; omega
      · show findP nm ≤ 16; omega
      · show ((atomsP C l ats l.length).length : Int) = arityP (findP nm)
        rw [atoms_len]; exact q2
      · rw [hf.globals]
        refine atoms_ins (o3 k3) ?_ (Int.natCast_nonneg _) (Int.le_refl _) y hy
        show (l.length : Int) ≤ l.length + (nums ats).length; omega
    rw [if_neg k3] at hbig ⊢
    by_cases k5 : k = 5
    · rw [if_pos k5] at hbig ⊢
      obtain ⟨q1, q2, q3, q4, q5, q6⟩ := r5 k5
      obtain ⟨p1, p2, p3⟩ := o5 k5
      have hi' : ¬ (⟨#[]⟩ : ByteArray) ∈ inn ++ bs.map Bind.name := fun h => by
        rcases List.mem_append.1 h with h | h
        · exact hi h
        · obtain ⟨b, hb, e⟩ := List.mem_map.1 h; exact q3 b hb e
      have b1 := put_big (layKid_was hbig)
      have hkid := laidKid C es _ (letIn bs l) _ q2 q6 hi' p3 hbig
      have hl := letIn_len bs l
      obtain ⟨g1, g2⟩ := foldM_grp (C := C) (inn := letIn bs l) (s := s) hi' bs ⟨preM bs, l.length, s⟩ ⟨Grow.refl _ _, rfl, fun f _ _ _ k hk => mk_num (preM_kind hk)⟩ (RtBs_mem q5) (okBs_mem p2) b1.1 (Int.natCast_nonneg _) (by show (l.length : Int) + (preM bs).length ≤ _; omega)
      have g2' : (letM C bs l s).makes.length = (preM bs).length + bs.length := g2
      have hmk : (l.length : Int) + (letM C bs l s).makes.length = (letIn bs l).length := by omega
      refine Laid.after g1.grow g1.ins (Laid.then rfl hkid fun f hf hj => ⟨Int.natCast_nonneg _, b1.2, .inl ⟨rfl, fun e => ?_, fun k hk => ?_, ?_⟩⟩)
      · have : (letM C bs l s).makes = [] := e
        rw [this] at g2'
        exact q1 (List.length_eq_zero_iff.1 (by simp at g2'; omega))
      · show MkOK f ((l.length : Int) + (letM C bs l s).makes.length) k
        rw [hmk]
        exact g1.makes f hf.cons hf.globals (infos_grow (ds := C.ds) hkid.grow hf.infos) k hk
      · obtain ⟨j, hj1, hj2⟩ := hj
        exact ⟨j, hj1, by rw [hj2]; exact hmk.symm⟩
    rw [if_neg k5] at hbig ⊢
    have k6 : k = 6 := by omega
    rw [if_pos k6] at hbig ⊢
    obtain ⟨q1, q2, q3, q4⟩ := r6 k6
    obtain ⟨p1, p2, p3⟩ := o6 k6
    have hbA : (layAlts C (keepL l ls) ls ⟨[], armsS (layKid C es (here l (withinKid es)) (caseS C es ls l s)) s.ins.length (keepL l ls)⟩).s.big = false := hbig
    have hbB := put_big (layAlts_was hbA)
    have hbK : (layKid C es (here l (withinKid es)) (caseS C es ls l s)).big = false := hbB.1
    have hbC := put_big (layKid_was hbK)
    have hkid := laidKid C es _ (here l (withinKid es)) _ q1 q3 hi p2 hbK
    have hals := laidAlts C (keepL l ls) ls inn _ q4 hi p3 hbA
    generalize hs2 : layKid C es (here l (withinKid es)) (caseS C es ls l s) = s2 at *
    generalize ht : layAlts C (keepL l ls) ls ⟨[], armsS s2 s.ins.length (keepL l ls)⟩ = t at *
    have hc : (caseS C es ls l s).ins.length = s.ins.length + 1 := put_len _ _
    have h2 := hkid.lt
    have h3 : (armsS s2 s.ins.length (keepL l ls)).ins.length = s2.ins.length + 1 := by simp [armsS, putS, setA]
    have h4 := hals.le
    have e3 : ∀ i, i ≠ s.ins.length → i < s2.ins.length → (armsS s2 s.ins.length (keepL l ls)).ins[i]? = s2.ins[i]? := fun i hi hl => by
      simp only [armsS, putS, setA]
      rw [List.getElem?_append_left (by simpa using hl), List.getElem?_modify_ne _ _ (fun e => hi e.symm)]
    have e4 : (armsS s2 s.ins.length (keepL l ls)).ins[s2.ins.length]? = some ⟨5, 0, (keepL l ls).length + 1, [], [], [], []⟩ := by simp [armsS, putS, setA]
    have e5 : s2.ins[s.ins.length]? = some ⟨4, 0, l.length, (here l (withinKid es)).map (place C l), (keepL l ls).map (place C l), [], []⟩ := by
      rw [hkid.pre _ (by omega)]; exact put_at _ _
    have e6 : (armsS s2 s.ins.length (keepL l ls)).ins[s.ins.length]? = some ⟨4, s2.ins.length, l.length, (here l (withinKid es)).map (place C l), (keepL l ls).map (place C l), [], []⟩ := by
      simp only [armsS, putS, setA]
      rw [List.getElem?_append_left (by simp; omega), List.getElem?_modify_eq, e5]; rfl
    have e7 : ∀ i, i ≠ s2.ins.length → (setArms t.s s2.ins.length t.arms).ins[i]? = t.s.ins[i]? := fun i hi => List.getElem?_modify_ne _ _ (fun e => hi e.symm)
    have e8 : (setArms t.s s2.ins.length t.arms).ins[s2.ins.length]? = some ⟨5, 0, (keepL l ls).length + 1, [], [], [], t.arms⟩ := by
      simp only [setArms]
      rw [List.getElem?_modify_eq, hals.pre _ (by show _ < (armsS s2 s.ins.length (keepL l ls)).ins.length; omega)]
      show Option.map _ ((armsS s2 s.ins.length (keepL l ls)).ins[s2.ins.length]?) = _
      rw [e4]; rfl
    have e9 : (setArms t.s s2.ins.length t.arms).ins.length = t.s.ins.length := by simp [setArms]
    have e10 : ∀ i, i ≠ s.ins.length → i < s2.ins.length → (setArms t.s s2.ins.length t.arms).ins[i]? = s2.ins[i]? := fun i hi hl => by
      rw [e7 _ (by omega), hals.pre _ (by show _ < (armsS s2 s.ins.length (keepL l ls)).ins.length; omega)]
      exact e3 i hi hl
    have e11 : (setArms t.s s2.ins.length t.arms).ins[s.ins.length]? = some ⟨4, s2.ins.length, l.length, (here l (withinKid es)).map (place C l), (keepL l ls).map (place C l), [], []⟩ := by
      rw [e7 _ (by omega), hals.pre _ (by show _ < (armsS s2 s.ins.length (keepL l ls)).ins.length; omega)]
      exact e6
    have h4' : s2.ins.length + 1 ≤ t.s.ins.length := by rw [← h3]; exact h4
    have gA : Grow C.ds (armsS s2 s.ins.length (keepL l ls)) t.s := hals.grow
    have gAll : Grow C.ds s t.s := (Grow.trans (t := s2) hkid.grow (gA : Grow C.ds s2 t.s))
    refine ⟨gAll, fun i hi' => ?_, ⟨_, e11, rfl⟩, fun f hf i x hi' hx => ?_⟩
    · rw [e10 i (by omega) (by omega), hkid.pre i (by omega)]
      exact put_pre s _ hi'
    have hfA : FinC C f t.s (armsS s2 s.ins.length (keepL l ls)).ins.length := ⟨hf.cons, hf.globals, fun i h1 h2 => by rw [hf.ins i (by omega) (by omega), e7 i (by omega)], hf.infos⟩
    have hfK : FinC C f s2 (caseS C es ls l s).ins.length := ⟨hf.cons, hf.globals, fun i h1 h2 => by rw [hf.ins i (by omega) (by omega), e10 i (by omega) h2], infos_grow gA hf.infos⟩
    by_cases i1 : i = s.ins.length
    · subst i1
      rw [e11] at hx
      cases hx
      refine ⟨Int.natCast_nonneg _, hbC.2, .inr (.inr (.inr (.inl ⟨rfl, fun y hy => ?_, fun y hy => ?_, ?_, s2.ins.length, ⟨5, 0, (keepL l ls).length + 1, [], [], [], t.arms⟩, rfl, ?_, rfl, ?_⟩)))⟩
      · rw [hf.globals]; exact here_ins (Int.le_refl _) y hy
      · rw [hf.globals]; exact keepL_ins (Int.le_refl _) y hy
      · obtain ⟨j, hj1, hj2⟩ := hkid.first
        refine ⟨j, ?_, by rw [hj2]; simp⟩
        rw [← hc, hf.ins _ (by omega) (by omega), e10 _ (by omega) (by omega), hj1]
      · rw [hf.ins _ (by omega) (by omega), e8]
      · simp
    by_cases i2 : i < s2.ins.length
    · rw [e10 i i1 i2] at hx
      exact hkid.ok f hfK i x (by omega) hx
    by_cases i3 : i = s2.ins.length
    · subst i3
      rw [e8] at hx
      cases hx
      obtain ⟨new, n1, n2, n3⟩ := hals.arms
      have n1' : t.arms = new := by simpa using n1
      refine ⟨by show (0 : Int) ≤ (keepL l ls).length + 1; omega, hbB.2, .inr (.inr (.inr (.inr (.inl ⟨rfl, by show (1 : Int) ≤ (keepL l ls).length + 1; omega, fun e => ?_, fun a ha => ?_⟩))))⟩
      · have : t.arms = [] := e
        rw [n1'] at this
        rw [this] at n2
        exact q2 (List.length_eq_zero_iff.1 n2.symm)
      · have := n3 f hfA a (by rw [← n1']; exact ha)
        simpa using this
    · rw [e7 i i3] at hx
      exact hals.ok f hfA i x (by show (armsS s2 s.ins.length (keepL l ls)).ins.length ≤ i; omega) hx
theorem laidKid (C : Env) : ∀ (es : List Exp) (inn l : List ByteArray) (s : Sc), es ≠ [] → RtKid C.ds inn es → ¬ (⟨#[]⟩ : ByteArray) ∈ inn → okKid C l es → (layKid C es l s).big = false → Laid C l.length s (layKid C es l s)
  | [], inn, l, s, h, _, _, _, _ => absurd rfl h
  | e :: es, inn, l, s, _, hr, hi, ho, hb => by
    simp only [RtKid] at hr
    simp only [okKid] at ho
    simp only [layKid] at hb ⊢
    exact laidE C e inn l s hr hi ho hb
theorem laidAlt (C : Env) : ∀ (keep : List ByteArray) (a : Alt) (inn : List ByteArray) (t : Ars), RtL C.ds inn a → ¬ (⟨#[]⟩ : ByteArray) ∈ inn → okL C keep a → (layAlt C keep a t).s.big = false → Als C keep.length 1 t (layAlt C keep a t)
  | keep, .mk k a nm n vs e, inn, t, hr, hi, ho, hb => by
    simp only [RtL] at hr
    obtain ⟨r1, r2, r3, r4⟩ := hr
    simp only [okL] at ho
    simp only [layAlt] at hb ⊢
    have hi' : ¬ (⟨#[]⟩ : ByteArray) ∈ altIn k nm vs inn := fun h => by
      unfold altIn at h
      split at h
      · rename_i h1
        rcases List.mem_append.1 h with h | h
        · exact hi h
        · exact (r2 h1).2.1 h
      · split at h
        · rename_i h3
          rcases List.mem_append.1 h with h | h
          · exact hi h
          · simp at h; exact r3 h3 h.symm
        · exact hi h
    have h1 := laidE C e _ (armIn keep k nm vs) t.s r4 hi' ho hb
    have hlt := h1.lt
    refine ⟨h1.grow, by show t.s.ins.length ≤ (layE C e (armIn keep k nm vs) t.s).ins.length; omega, h1.pre, h1.ok, _, rfl, rfl, fun f hf a ha => ?_⟩
    obtain rfl := List.mem_singleton.1 ha
    obtain ⟨j, hj1, hj2⟩ := h1.first
    rw [armIn_len] at hj2
    refine ⟨t.s.ins.length, j, rfl, by rw [hf.ins _ (Nat.le_refl _) hlt]; exact hj1, ?_⟩
    by_cases hk : k = 1
    · obtain ⟨i, x, q1, q2, q3⟩ := conD_at (r2 hk).1
      refine .inl ⟨hk, i, x, by show (if k = 1 then conD C.ds nm else 0) = _; rw [if_pos hk, q1], by rw [hf.cons]; exact q2, ?_⟩
      rw [hj2, if_pos hk, q3]; simp
    · refine .inr ⟨by show k = 2 ∨ k = 3; omega, ?_⟩
      rw [hj2, if_neg hk]
theorem laidAlts (C : Env) : ∀ (keep : List ByteArray) (ls : List Alt) (inn : List ByteArray) (t : Ars), RtLs C.ds inn ls → ¬ (⟨#[]⟩ : ByteArray) ∈ inn → okLs C keep ls → (layAlts C keep ls t).s.big = false → Als C keep.length ls.length t (layAlts C keep ls t)
  | keep, [], inn, t, _, _, _, _ => by
    simp only [layAlts]
    exact ⟨Grow.refl _ _, Nat.le_refl _, fun _ _ => rfl, fun f _ i x h hx => absurd (List.getElem?_eq_some_iff.1 hx).1 (by omega), [], by simp, rfl, fun _ _ _ h => nomatch h⟩
  | keep, a :: ls, inn, t, hr, hi, ho, hb => by
    simp only [RtLs] at hr
    simp only [U.okLs] at ho
    simp only [layAlts] at hb ⊢
    have h1 := laidAlt C keep a inn t hr.1 hi ho.1 (layAlts_was hb)
    have h2 := laidAlts C keep ls inn (layAlt C keep a t) hr.2 hi ho.2 hb
    have l1 := h1.le
    have l2 := h2.le
    obtain ⟨n1, a1, a2, a3⟩ := h1.arms
    obtain ⟨n2, b1, b2, b3⟩ := h2.arms
    have w1 : ∀ {f}, FinC C f (layAlts C keep ls (layAlt C keep a t)).s t.s.ins.length → FinC C f (layAlt C keep a t).s t.s.ins.length := fun {f} hf =>
      ⟨hf.cons, hf.globals, fun i g1 g2 => by rw [hf.ins i g1 (by omega), h2.pre i g2], infos_grow h2.grow hf.infos⟩
    have w2 : ∀ {f}, FinC C f (layAlts C keep ls (layAlt C keep a t)).s t.s.ins.length → FinC C f (layAlts C keep ls (layAlt C keep a t)).s (layAlt C keep a t).s.ins.length := fun {f} hf =>
      ⟨hf.cons, hf.globals, fun i g1 g2 => hf.ins i (by omega) g2, hf.infos⟩
    refine ⟨h1.grow.trans h2.grow, by omega, fun i g => by rw [h2.pre i (by omega), h1.pre i g], fun f hf i x g hx => ?_, n1 ++ n2, by rw [b1, a1, List.append_assoc], by rw [List.length_append, a2, b2, List.length_cons]; omega, fun f hf x hx => ?_⟩
    · by_cases hlt : i < (layAlt C keep a t).s.ins.length
      · rw [h2.pre i hlt] at hx
        exact h1.ok f (w1 hf) i x g hx
      · exact h2.ok f (w2 hf) i x (by omega) hx
    · rcases List.mem_append.1 hx with hx | hx
      · exact a3 f (w1 hf) x hx
      · exact b3 f (w2 hf) x hx
end
end Go.Proofs.YtoepmdbicdoieaaDoor.N
