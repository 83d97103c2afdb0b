/- The engine, part 6: stores into blocks of the call's own, values that are built, calls, and where a walk ends. -/
import Derived.Test.YthdbmbabfngakaaE5
import Derived.Laws.CopyRow
import Derived.Laws.Tables
namespace Go.Eng
open Go Go.RowKit

/-- A value's cells, by its type. -/
def vcs (D : TD) (v : Value) : Option (List Value) :=
  if isAggD D.d = true then (match v with
    | .agg cs => if cs.toList.length = D.size ∧ cs.toList.all Value.oneCell' = true then some cs.toList else none
    | _ => none)
  else if D.size = 1 ∧ v.oneCell' = true then some [v] else none
def wr (cs : List Value) (off : Nat) (vs : List Value) : List Value := cs.take off ++ vs ++ cs.drop (off + vs.length)
theorem cells_one {v : Value} (h : v.oneCell' = true) : v.cells = #[v] := by cases v <;> first | rfl | cases h
theorem vcs_cells {D : TD} {v : Value} {vs : List Value} (h : vcs D v = some vs) : v.cells.toList = vs ∧ vs.length = D.size ∧ ∀ x ∈ vs, x.oneCell' = true := by
  unfold vcs at h
  split at h
  · split at h
    · split at h
      · rename_i hc
        cases h
        exact ⟨rfl, hc.1, fun x hx => (List.all_eq_true.1 hc.2) x hx⟩
      · cases h
    · cases h
  · split at h
    · rename_i hc
      cases h
      exact ⟨by rw [cells_one hc.2], by simp [hc.1], by simp [hc.2]⟩
    · cases h
theorem foldl_zip (off : Nat) : ∀ (l : List Value) (k : Nat) (cs : List Value), off + k + l.length ≤ cs.length →
    (l.zipIdx k).foldl (fun (cs : List Value) (p : Value × Nat) => cs.set (off + p.2) p.1) cs = cs.take (off + k) ++ l ++ cs.drop (off + k + l.length)
  | [], k, cs, _ => by simp
  | v :: l, k, cs, h => by
    simp only [List.length_cons] at h
    simp only [List.zipIdx_cons, List.foldl_cons]
    rw [foldl_zip off l (k + 1) (cs.set (off + k) v) (by simp; omega)]
    have e := list_seg_step cs (off + k) v l (by omega)
    rw [List.length_cons, show off + (k + 1) = off + k + 1 from rfl]
    exact e
theorem foldl_arr (off : Nat) (l : List (Value × Nat)) : ∀ (cs : List Value), l.foldl (fun (cs : Array Value) (p : Value × Nat) => cs.setIfInBounds (off + p.2) p.1) cs.toArray = (l.foldl (fun (cs : List Value) (p : Value × Nat) => cs.set (off + p.2) p.1) cs).toArray := by
  induction l with
  | nil => intro cs; rfl
  | cons p l ih => intro cs; simp only [List.foldl_cons]; rw [← ih]; simp
def fillS (pl : Nat → Option (Nat × TD)) : List (Nat × Value) → List Value → Option (List Value)
  | [], cs => some cs
  | (i, v) :: rest, cs => match pl i with
    | none => none
    | some (off, D) => match vcs D v with
      | none => none
      | some vs => if off + D.size ≤ cs.length then fillS pl rest (wr cs off vs) else none
theorem fill_run (pl : Nat → Option (Nat × TD)) (place : Nat → Option (Nat × Nat)) (hp : ∀ i off D, pl i = some (off, D) → place i = some (off, D.size)) : ∀ (parts : List (Nat × Value)) (cs r : List Value),
    fillS pl parts cs = some r → Instr.fill place cs.toArray parts = some r.toArray
  | [], cs, r, h => by simp only [fillS, Option.some.injEq] at h; subst h; rfl
  | (i, v) :: rest, cs, r, h => by
    simp only [fillS] at h
    split at h
    · cases h
    · rename_i off D hD
      split at h
      · cases h
      · rename_i vs hv
        obtain ⟨h1, h2, h3⟩ := vcs_cells hv
        split at h
        · rename_i hl
          have ih := fill_run pl place hp rest _ _ h
          have hsz : v.cells.size = D.size := by rw [← h2, ← h1]; simp
          simp only [Instr.fill, hp i off D hD, hsz]
          rw [if_neg (by simp; omega), ← ih]
          congr 1
          have e1 : v.cells.zipIdx.foldl (fun cs (x : Value × Nat) => cs.setIfInBounds (off + x.2) x.1) cs.toArray = (wr cs off vs).toArray := by
            rw [← Array.foldl_toList, Array.toList_zipIdx, foldl_arr, h1]
            rw [foldl_zip off vs 0 cs (by omega)]
            rfl
          exact e1
        · cases h
def partsv (S : St) : List (Nat × Operand) → Option (List (Nat × Value))
  | [] => some []
  | (i, x) :: l => match evo S.L x, partsv S l with
    | some y, some ys => some ((i, y.val) :: ys)
    | _, _ => none
/-- A struct or an array that is built. -/
def bldv (P : Program) (S : St) (t : TypeId) (parts : Array (Nat × Operand)) : Option AV :=
  match ty P t, partsv S parts.toList with
  | some ⟨.struct fs, _, _, z⟩, some ps => if fs.toList.all (fun f => (ty P f.type).isSome) = true then (match fillS (fdAt P t) ps z.cells.toList with
    | some r => some (.v (.agg r.toArray))
    | none => none) else none
  | _, _ => none
/-- A row of elements that is built: all of them told, one behind the other. -/
def bslv (P : Program) (S : St) (t : TypeId) (len : Nat) (parts : Array (Nat × Operand)) : Option (TypeId × List Value) :=
  match ty P t with
  | some ⟨.slice e, _, _, _⟩ => (match ty P e, partsv S parts.toList with
    | some D, some ps => if len * D.size ≤ 1000 ∧ 0 < D.zero.cells.toList.length then
        (match fillS (fun i => some (i * D.size, D)) ps ((List.range (len * D.size)).map fun i => D.zero.cells.toList.getD (i % D.zero.cells.toList.length) undef) with
        | some r => some (e, r)
        | none => none) else none
    | _, _ => none)
  | _ => none

section
variable {P : Program} {n : Nat} {C : Cx} {k : List KItem} {S : St} {all : Array Oper} {o : Oper} {l : List Oper} {st : Bool}

theorem partsv_run {a : Act} (ha : Kn n S.L a) : ∀ {l : List (Nat × Operand)} {r : List (Nat × Value)}, partsv S l = some r → l.map (fun p => (p.1, a.eval p.2)) = r
  | [], r, h => by simp only [partsv, Option.some.injEq] at h; subst h; rfl
  | (i, x) :: l, r, h => by
    simp only [partsv] at h
    split at h
    · rename_i h1 h2
      cases h
      simp [ha.eval h1, partsv_run ha h2]
    · cases h
theorem places_ok {P : Program} : ∀ (l : List Field), l.all (fun f => (ty P f.type).isSome) = true →
    l.mapM (fun f => (P.info? f.type).map fun i => (f.offset, i.size)) = some (l.map fun f => (f.offset, ((ty P f.type).map (·.size)).getD 0))
  | [], _ => rfl
  | f :: l, h => by
    simp only [List.all_cons, Bool.and_eq_true] at h
    obtain ⟨D, hD⟩ := Option.isSome_iff_exists.1 h.1
    obtain ⟨_, i, hi, hs, _⟩ := ty_some hD
    simp [List.mapM_cons, hi, places_ok l h.2, hD, hs]
theorem bldv_run {a : Act} {w : World} (ha : Kn n S.L a) {t : TypeId} {parts : Array (Nat × Operand)} {y : AV} (h : bldv P S t parts = some y) :
    (Instr.build t (parts.map fun (i, x) => (i, a.eval x))).run P w = .ok y.val w := by
  unfold bldv at h
  split at h
  · rename_i fs _ _ z ps ht hps
    split at h
    · rename_i hall
      split at h
      · rename_i r hr
        cases h
        refine run_build w t _ _ ?_
        obtain ⟨hu, i, hi, _, _, hz⟩ := ty_some ht
        unfold Program.built
        simp only [hi, hu, hz, places_ok _ hall]
        have hp := partsv_run ha hps
        have e : (parts.map fun (i, x) => (i, a.eval x)).toList = ps := by rw [Array.toList_map]; exact hp
        rw [e]
        have := fill_run (fdAt P t) (fun x => (fs.toList.map fun f => (f.offset, ((ty P f.type).map (·.size)).getD 0)).toArray[x]?) (by
          intro i off D hD
          obtain ⟨fs', fd, g1, g2, g3, g4⟩ := fdAt_run hD
          rw [hu] at g1
          cases g1
          simp [g2, g3, g4]) ps z.cells.toList r hr
        rw [Array.toArray_toList] at this
        exact this
      · cases h
    · cases h
  · cases h
theorem bslv_run {a : Act} {w : World} (ha : Kn n S.L a) {t : TypeId} {len : Nat} {parts : Array (Nat × Operand)} {e : TypeId} {cs : List Value} (h : bslv P S t len parts = some (e, cs)) :
    (Instr.buildSlice t len (parts.map fun (i, x) => (i, a.eval x))).run P w = .ok (.slice (some ⟨w.heap.size, 0, none⟩) len len) (w.alloc (.cells cs.toArray e)) := by
  unfold bslv at h
  split at h
  · rename_i e' _ _ _ ht
    split at h
    · rename_i D ps hD hps
      split at h
      · rename_i hlen
        split at h
        · rename_i r hr
          cases h
          have hp := partsv_run ha hps
          have ee : (parts.map fun (i, x) => (i, a.eval x)).toList = ps := by rw [Array.toList_map]; exact hp
          have hf := fill_run (fun i => some (i * D.size, D)) (fun i => some (i * D.size, D.size)) (by rintro i off D' hD'; cases hD'; rfl) ps _ cs hr
          have hz : ((Array.range (len * D.size)).map fun i => D.zero.cells[i % D.zero.cells.size]!) = ((List.range (len * D.size)).map fun i => D.zero.cells.toList.getD (i % D.zero.cells.toList.length) undef).toArray := by
            have hpos : 0 < D.zero.cells.size := by simpa using hlen.2
            apply Array.ext'
            rw [Array.toList_map, Array.toList_range]
            refine List.map_congr_left fun i _ => ?_
            have hm := Nat.mod_lt i hpos
            simp [hm]
          simp only [Instr.buildSlice, Sem.run_bind, ty_underlying ht, Result.andThen_ok, ty_size hD]
          rw [if_neg (by omega)]
          by_cases h0 : len * D.size = 0
          · have ee' : (parts.map fun x => (x.1, a.eval x.2)).toList = ps := ee
            simp only [h0, if_true, pure_bind] at hf ⊢
            rw [ee']
            have hf' : Instr.fill (fun i => some (i * D.size, D.size)) (Array.map (fun x => (#[] : Array Value)[x % (#[] : Array Value).size]!) (Array.range 0)) ps = some cs.toArray := by
              rw [← hf]
              congr 1
              apply Array.ext'
              rw [Array.toList_map, Array.toList_range]
              rfl
            rw [hf']
            rfl
          · have hf' : Instr.fill (fun i => some (i * D.size, D.size)) ((Array.range (len * D.size)).map fun x => D.zero.cells[x % D.zero.cells.size]!) (parts.map fun (i, x) => (i, a.eval x)).toList = some cs.toArray := by
              rw [ee, hz]; exact hf
            simp only [if_neg h0, Sem.run_bind, ty_zero hD, Result.andThen_ok, Sem.run_pure]
            rw [hf']
            rfl
        · cases h
      · cases h
    · cases h
  · cases h

/-! ### Stores -/
def stI (S : St) (D : TD) (i b off : Nat) (y : AV) : Option (List Own) :=
  match ownF S.M i with
    | some o => if o.b = b then
        (if isAggD D.d = true then (match vcs D y.val with
          | some vs => if off + D.size ≤ o.cs.length then some (updM S.M i (wr o.cs off vs)) else none
          | none => none)
        else if D.size = 1 ∧ y.val.oneCell' = true ∧ off < o.cs.length then some (updM S.M i (o.cs.set off y.val)) else none) else none
    | none => none
/-- The name of a block of the call's own. -/
def ownB : List Own → Nat → Option Nat
  | [], _ => none
  | o :: M, b => if o.b = b then some o.i else ownB M b
def stM (P : Program) (S : St) (t : TypeId) (x y : AV) : Option (List Own) :=
  match ty P t, x with
  | some D, .o i b off => stI S D i b off y
  | some D, .v (.pointer (some ⟨b, off, none⟩)) => (match ownB S.M b with
    | some i => stI S D i b off y
    | none => none)
  | _, _ => none
theorem updM_mem : ∀ {M : List Own} {i : Nat} {o : Own} {cs : List Value}, ownF M i = some o → M.Pairwise (fun x y => x.b ≠ y.b) → ∀ x ∈ updM M i cs, (x = { o with cs := cs }) ∨ (x ∈ M ∧ x.b ≠ o.b)
  | [], _, _, _, h, _, _, _ => by cases h
  | m :: M, i, o, cs, h, hp, x, hx => by
    rw [List.pairwise_cons] at hp
    simp only [ownF] at h
    simp only [updM] at hx
    split at h
    · rename_i e
      cases h
      rw [if_pos e] at hx
      rcases List.mem_cons.1 hx with rfl | hx
      · exact .inl rfl
      · exact .inr ⟨List.mem_cons_of_mem _ hx, fun e => hp.1 x hx e.symm⟩
    · rename_i e
      rw [if_neg e] at hx
      rcases List.mem_cons.1 hx with rfl | hx
      · exact .inr ⟨List.mem_cons_self, fun e => hp.1 o (ownF_mem h) e⟩
      · rcases updM_mem h hp.2 x hx with h' | ⟨h1, h2⟩
        · exact .inl h'
        · exact .inr ⟨List.mem_cons_of_mem _ h1, h2⟩
theorem updM_pair : ∀ {M : List Own} {i : Nat} {o : Own} {cs : List Value}, ownF M i = some o → M.Pairwise (fun x y => x.b ≠ y.b) → (updM M i cs).Pairwise (fun x y => x.b ≠ y.b)
  | [], _, _, _, h, _ => by cases h
  | m :: M, i, o, cs, h, hp => by
    have hp' := List.pairwise_cons.1 hp
    simp only [updM]
    simp only [ownF] at h
    split at h
    · rename_i e
      cases h
      rw [if_pos e]
      exact List.pairwise_cons.2 ⟨hp'.1, hp'.2⟩
    · rename_i e
      rw [if_neg e]
      refine List.pairwise_cons.2 ⟨fun x hx => ?_, updM_pair h hp'.2⟩
      rcases updM_mem h hp'.2 x hx with rfl | ⟨h1, _⟩
      · exact hp'.1 o (ownF_mem h)
      · exact hp'.1 x h1
theorem Sat.store {B : Base} {w : World} (hw : Sat B S w) {i : Nat} {o : Own} (ho : ownF S.M i = some o) (cs : List Value) : Sat B ⟨S.L, updM S.M i cs, S.F, S.R, S.nx⟩ (w.setRow o.b cs.toArray) := by
  obtain ⟨m1, m2, m3, m4⟩ := hw.m o (ownF_mem ho)
  have hk : ∀ F : PH, F.In w → F o.b = none → F.In (w.setRow o.b cs.toArray) := fun F hF hn b u e => by
    rw [setRow_other]
    · exact hF b u e
    · rintro rfl; rw [hn] at e; cases e
  refine ⟨hk _ hw.f m2, fun x hx => ?_, updM_pair ho hw.mm, fun r hr => ⟨hk _ (hw.r r hr).1 (m3 r hr), (hw.r r hr).2⟩, hw.rr, ?_, hw.f0, hw.fnew⟩
  · rcases updM_mem ho hw.mm x hx with rfl | ⟨h1, h2⟩
    · exact ⟨setRow_heap w o.b _ _ _ _ m1, m2, m3, m4⟩
    · obtain ⟨k1, k2⟩ := hw.m x h1
      exact ⟨by rw [setRow_other _ _ _ _ h2]; exact k1, k2⟩
  · refine ⟨hw.late.os, hw.late.tape, hw.late.output, by simpa using hw.late.size, fun j hj hx => ?_⟩
    rw [setRow_other]
    · exact hw.late.block j hj hx
    · rintro rfl
      rcases m4 with h | h
      · exact hx h
      · omega
theorem stI_run {B : Base} {w : World} (hw : Sat B S w) {t : TypeId} {D : TD} (ht : ty P t = some D) {i b off : Nat} {y : AV} {M : List Own} (h : stI S D i b off y = some M) :
    ∃ w', (Instr.storeAt t (.pointer (some ⟨b, off, none⟩)) y.val).run P w = .ok () w' ∧ Sat B ⟨S.L, M, S.F, S.R, S.nx⟩ w' := by
  unfold stI at h
  split at h
  · rename_i o ho
    split at h
    · rename_i hb
      subst hb
      have hh := hw.own_heap ho
      split at h
      · split at h
        · rename_i vs hv
          obtain ⟨h1, h2, h3⟩ := vcs_cells hv
          split at h
          · rename_i hl
            cases h
            refine ⟨_, ?_, hw.store ho (wr o.cs off vs)⟩
            have e := run_storeCells_at P o.b off o.t vs 0 o.cs.toArray w hh (by simp; omega) h3
            simp only [Instr.storeAt, Instr.sureAddr, Sem.run_bind, Sem.run_pure, Result.andThen_ok, storeVar, ty_size ht]
            rw [if_neg (by rw [← h2, ← h1]; simp), h1, e]
            rfl
          · cases h
        · cases h
      · split at h
        · rename_i hc
          cases h
          refine ⟨_, ?_, hw.store ho (o.cs.set off y.val)⟩
          have e := run_storeCells_at P o.b off o.t [y.val] 0 o.cs.toArray w hh (by simp; omega) (by simp [hc.2.1])
          simp only [Instr.storeAt, Instr.sureAddr, Sem.run_bind, Sem.run_pure, Result.andThen_ok, storeVar, ty_size ht, cells_one hc.2.1]
          rw [if_neg (by simp [hc.1]), e]
          congr 3
          rw [List.set_eq_take_append_cons_drop]
          simp [hc.2.2]
        · cases h
    · cases h
  · cases h
theorem stM_run {B : Base} {w : World} (hw : Sat B S w) {t : TypeId} {x y : AV} {M : List Own} (h : stM P S t x y = some M) :
    ∃ w', (Instr.storeAt t x.val y.val).run P w = .ok () w' ∧ Sat B ⟨S.L, M, S.F, S.R, S.nx⟩ w' := by
  unfold stM at h
  split at h
  · rename_i D i b off ht
    exact stI_run hw ht h
  · rename_i D b off ht
    split at h
    · exact stI_run hw ht h
    · cases h
  · cases h
theorem Eff.store {B : Base} {κ : St → Prop} {t : TypeId} {p v : Operand} {x y : AV} {M : List Own} (hd : o.dst = none) (ho : o.op = .store t p v) (hx : evo S.L p = some x) (hy : evo S.L v = some y) (hs : stM P S t x y = some M)
    (h : κ ⟨S.L, M, S.F, S.R, S.nx⟩) : Eff P n B st o S κ := by
  intro a w ha hw K Q hK
  obtain ⟨w', h1, h2⟩ := stM_run hw hs
  obtain ⟨dst, op, type, pos, after, guard⟩ := o
  subst ho
  subst hd
  have e : execOp a.eval ⟨none, .store t p v, type, pos, after, guard⟩ = (do Instr.storeAt t (a.eval p) (a.eval v); pure .skip) := rfl
  unfold Oper.wp
  rw [e, ha.eval hx, ha.eval hy]
  simp only [Sem.run_bind, h1, Result.andThen_ok, Sem.run_pure, Oper.upon_skip]
  exact hK (.v undef) w' ⟨S.L, M, S.F, S.R, S.nx⟩ rfl h2 (fun _ h => nomatch h) h
theorem Eff.build {B : Base} {κ : St → Prop} {t : TypeId} {parts : Array (Nat × Operand)} {y : AV} (ho : o.op = .build t parts) (hb : bldv P S t parts = some y)
    (h : κ { S with L := setk S.L o.dst y }) : Eff P n B st o S κ := by
  refine Eff.value fun a w ha hw => ⟨y, w, S.M, S.F, S.R, S.nx, ?_, hw, Stab.refl _ _ _ _, h⟩
  obtain ⟨dst, op, type, pos, after, guard⟩ := o
  subst ho
  exact run_value rfl (bldv_run ha hb)
/-- A row of elements that is built never turns again. -/
theorem Eff.bsl {B : Base} {κ : St → Prop} {t e : TypeId} {len : Nat} {parts : Array (Nat × Operand)} {cs : List Value} (ho : o.op = .buildSlice t len parts) (hb : bslv P S t len parts = some (e, cs))
    (h : ∀ b F', S.F.le F' → F' b = some (.cells cs.toArray e (0, 0)) → κ ⟨setk S.L o.dst (.v (.slice (some ⟨b, 0, none⟩) len len)), S.M, F', S.R, S.nx⟩) : Eff P n B st o S κ := by
  refine Eff.value fun a w ha hw => ?_
  obtain ⟨F', h1, h2, h3⟩ := ((hw.push e cs S.L 0 S.nx).permM List.perm_append_comm).freeze rfl S.L S.nx
  refine ⟨.v (.slice (some ⟨w.heap.size, 0, none⟩) len len), _, S.M, F', S.R, S.nx, ?_, h3, Stab.grow _ _ _ _ h1, h _ F' h1 h2⟩
  obtain ⟨dst, op, type, pos, after, guard⟩ := o
  subst ho
  exact run_value' (by rfl) (bslv_run ha hb)
/-- What is the call's own is lent from now on. -/
theorem Sat.toR {B : Base} {w : World} {m : Own} {M : List Own} (hw : Sat B S w) (hm : S.M = m :: M) (L : KL) (nx : Nat) : Sat B ⟨L, M, S.F, PH.one m.b (.cells m.cs.toArray m.t (0, 0)) :: S.R, nx⟩ w := by
  obtain ⟨m1, m2, m3, m4⟩ := hw.m m (by rw [hm]; exact List.mem_cons_self)
  have hmm := hw.mm
  rw [hm, List.pairwise_cons] at hmm
  have h1 : ∀ b, PH.one m.b (.cells m.cs.toArray m.t (0, 0)) b ≠ none → b = m.b := fun b hb => by
    by_cases e : b = m.b
    · exact e
    · exact absurd (by simp [PH.one, e]) hb
  refine ⟨hw.f, fun o ho => ?_, hmm.2, fun r hr => ?_, List.pairwise_cons.2 ⟨fun r hr b => ?_, hw.rr⟩, hw.late, hw.f0, hw.fnew⟩
  · obtain ⟨k1, k2, k3, k4⟩ := hw.m o (by rw [hm]; exact List.mem_cons_of_mem _ ho)
    refine ⟨k1, k2, fun r hr => ?_, k4⟩
    rcases List.mem_cons.1 hr with rfl | hr
    · simp [PH.one, Ne.symm (hmm.1 o ho)]
    · exact k3 r hr
  · rcases List.mem_cons.1 hr with rfl | hr
    · refine ⟨fun b u e => ?_, fun b => ?_, fun b hb => by rw [h1 b hb]; exact m4⟩
      · have := h1 b (by rw [e]; exact fun h => nomatch h)
        subst this
        simp [PH.one] at e; subst e; exact m1
      · by_cases e : b = m.b
        · subst e; exact .inl m2
        · exact .inr (by simp [PH.one, e])
    · exact hw.r r hr
  · by_cases e : b = m.b
    · subst e; exact .inr (m3 r hr)
    · exact .inl (by simp [PH.one, e])
/-- A row without elements, as one begins it. -/
theorem Eff.bsl0 {B : Base} {κ : St → Prop} {t e : TypeId} {parts : Array (Nat × Operand)} {cs : List Value} (ho : o.op = .buildSlice t 0 parts) (hb : bslv P S t 0 parts = some (e, cs))
    (h : ∀ b, κ ⟨setk S.L o.dst (.v (.slice (some ⟨b, 0, none⟩) 0 0)), S.M, S.F, PH.one b (.cells cs.toArray e (0, 0)) :: S.R, S.nx⟩) : Eff P n B st o S κ := by
  refine Eff.value fun a w ha hw => ?_
  have h3 := ((hw.push e cs S.L 0 S.nx).permM List.perm_append_comm).toR rfl S.L S.nx
  refine ⟨.v (.slice (some ⟨w.heap.size, 0, none⟩) 0 0), _, S.M, S.F, _, S.nx, ?_, h3, Stab.refl _ _ _ _, h _⟩
  obtain ⟨dst, op, type, pos, after, guard⟩ := o
  subst ho
  exact run_value' (by rfl) (bslv_run ha hb)
end
end Go.Eng
