/- The engine, part 21: rows of bytes: a text as bytes, texts and bytes put behind. A mark may stand behind such a row. -/
import Derived.Test.YtmiekonofocboaaGreatDoorF9
import Derived.Test.YtmiekonofocboaaGreatDoorE20
namespace Go.Eng
open Go Go.RowKit Go.Lib Go.AM
set_option linter.unusedSimpArgs false
set_option linter.unusedVariables false
/-- A row of bytes that is the walk's own to append to. -/
def BRow (r : PH) (e : TypeId) (v : Value) (xs : List Value) : Prop :=
  (v = .slice none 0 0 ∧ xs = [] ∧ ∀ b, r b = none) ∨
  ∃ g n cap cur fz, v = .slice (some ⟨g, 0, none⟩) n cap ∧ xs.length = n ∧ r = PH.one g (.cells cur e fz) ∧ FrOk fz cur.size ∧ n ≤ cap ∧ cap ≤ maxLen ∧ cur.size = cap ∧ cur.toList.take n = xs
theorem BRow.nil (e : TypeId) : BRow PH.emp e (.slice none 0 0) [] := .inl ⟨rfl, rfl, fun _ => rfl⟩
theorem BRow.one {r : PH} {e : TypeId} {v : Value} {xs : List Value} (h : BRow r e v xs) : v.oneCell' = true := by
  rcases h with ⟨rfl, _⟩ | ⟨_, _, _, _, _, rfl, _⟩ <;> rfl
theorem BRow.val {r : PH} {e : TypeId} {v : Value} {xs : List Value} (h : BRow r e v xs) : ∃ p c, v = .slice p xs.length c ∧ xs.length ≤ c ∧ c ≤ maxLen := by
  rcases h with ⟨rfl, rfl, _⟩ | ⟨g, n, cap, cur, fz, rfl, rfl, _, _, h2, h3, _⟩
  · exact ⟨none, 0, rfl, Nat.le_refl _, Nat.zero_le _⟩
  · exact ⟨_, cap, rfl, h2, h3⟩
theorem BRow.sl {r F : PH} {e : TypeId} {v : Value} {xs : List Value} (h : BRow r e v xs) (hl : r.le F) : Sl F 1 v xs.length xs := by
  rcases h with ⟨rfl, rfl, _⟩ | ⟨g, n, cap, cur, fz, rfl, h1, rfl, _, h2, h3, h4, h5⟩
  · exact ⟨none, 0, rfl, Nat.le_refl _, Nat.zero_le _, rfl, fun h => absurd h (by simp)⟩
  · subst h1
    refine ⟨_, cap, rfl, h2, h3, by simp, fun _ => ⟨_, rfl, ?_⟩⟩
    refine cells_mk (by simp) fun j u hj => ?_
    rw [add_own]
    have hc : F g = some (.cells cur e fz) := hl g _ (by simp [PH.one])
    rw [← h5, List.getElem?_take] at hj
    split at hj
    · simp only [PH.cell, hc, Option.isSome_none, Nat.zero_add]
      simpa using hj
    · cases hj
theorem bytesV_str (t : ByteArray) : bytesV (strCells t) = some (t.data.toList.map fun b => (b.toNat : Int)) := by
  have := bytesV_of (t.data.toList.map fun b => (b.toNat : Int))
  rw [List.map_map] at this
  exact this
theorem bstr_str' (t : ByteArray) : bstr (t.data.toList.map fun b => (b.toNat : Int)) = t := by
  have key : ∀ (l : List UInt8) (acc : ByteArray), (l.map fun b => (b.toNat : Int)).foldl (fun r n => r.push (UInt8.ofNat n.toNat)) acc = ⟨acc.data ++ l.toArray⟩ := by
    intro l
    induction l with
    | nil => intro acc; simp
    | cons a l ih =>
      intro acc
      rw [List.map_cons, List.foldl_cons, ih]
      simp [ByteArray.push]
  have := key t.data.toList ByteArray.empty
  rw [bstr, this]
  simp only [ByteArray.empty, ByteArray.emptyWithCapacity, Array.toArray_toList]
  exact congrArg ByteArray.mk Array.empty_append
section
variable {P : Program} {n : Nat} {C : Cx} {k : List KItem} {S : St} {all : Array Oper} {o : Oper} {l : List Oper} {B : Base} {κ : St → Prop} {st : Bool}
/-- What an append to such a row does, whatever is put behind. -/
theorem run_app_brow {w : World} {t u ty e : TypeId} {i : TypeInfo} {d : TypeDesc} (ht : P.underlying t = some (.slice e)) (hu : P.underlying u = some d) (hd : NotInt d) (hi : P.info? e = some i) (hs : i.size = 1) (hby : i.bytes = 1) (hz : i.zero = some (.int .u8 0)) {x v : Value} {m : Nat} {xs news : List Value} {r : PH}
    (hrow : BRow r e v xs) (hr : r.In w) (hlen : (Builtin.lenOf x).run P w = .ok m w) (hfirst : ∀ w0 : World, w0.heap = w.heap → (Builtin.firstCells i.size m x).run P w0 = .ok news.toArray w0) (hm : news.length = m) (h1 : ∀ v ∈ news, v.oneCell' = true) (hb : xs.length + m ≤ 1000000000000) :
    ∃ v' w' r', (Builtin.append_ #[t, u] ty #[v, x]).run P w = .ok v' w' ∧ BRow r' e v' (xs ++ news) ∧ r'.In w' ∧ w'.os = w.os ∧ w'.tape = w.tape ∧ w'.output = w.output ∧ w.heap.size ≤ w'.heap.size ∧ (∀ b, b < w.heap.size → r b = none → w'.heap[b]? = w.heap[b]?) ∧ ∀ b, r' b ≠ none → r b ≠ none ∨ w.heap.size ≤ b := by
  rcases Nat.eq_zero_or_pos m with hm0 | hpos
  · subst hm0
    obtain rfl : news = [] := List.eq_nil_of_length_eq_zero hm
    have hf := hfirst w rfl
    refine ⟨v, w, r, ?_, by simpa using hrow, hr, rfl, rfl, rfl, Nat.le_refl _, fun _ _ _ => rfl, fun b hb => .inl hb⟩
    rcases hrow with ⟨rfl, rfl, _⟩ | ⟨g, n, cap, cur, fz, rfl, _, _, _, h2, _⟩
    · exact run_app_nil0 ht hu hd hi hlen hf
    · exact run_app_none ht hu hd hi h2 hlen hf
  · have fit : ∀ c, c < xs.length + m → Builtin.nextslicecap (xs.length + m) c * i.bytes ≤ 281474976710656 := fun c hc => growslice_fits hc (by rw [hby]; omega)
    have grown : ∀ {base : Option Addr} {c : Nat} {v' : Value}, v = .slice base xs.length c → c < xs.length + m → (Builtin.firstCells i.size xs.length (.slice base xs.length c)).run P w.drew = .ok xs.toArray w.drew →
        ∃ v' w' r', (Builtin.append_ #[t, u] ty #[v, x]).run P w = .ok v' w' ∧ BRow r' e v' (xs ++ news) ∧ r'.In w' ∧ w'.os = w.os ∧ w'.tape = w.tape ∧ w'.output = w.output ∧ w.heap.size ≤ w'.heap.size ∧ (∀ b, b < w.heap.size → r b = none → w'.heap[b]? = w.heap[b]?) ∧ ∀ b, r' b ≠ none → r b ≠ none ∨ w.heap.size ≤ b := by
      intro base c v' hv hc hold
      have hrun := run_app_grow (P := P) (ty := ty) (sLen := xs.length) (sCap := c) (base := base) (olds := xs) ht hu hd hi hz hlen (hfirst w.drew rfl) hold hc (by omega) (fit c hc)
      rw [← hv] at hrun
      have hge := grownCap_ge w (xs.length + m) c e
      have hcm := grownCap_le_maxLen w (xs.length + m) c e (by unfold maxLen; omega)
      have hst := step_alloc' w w.drew (.cells (xs.toArray ++ news.toArray ++ Builtin.zeroCells (Value.int .u8 0).cells (grownCap w (xs.length + m) c e - (xs.length + m))) e) rfl rfl rfl rfl
      have hsz : (xs.toArray ++ news.toArray ++ Builtin.zeroCells (Value.int .u8 0).cells (grownCap w (xs.length + m) c e - (xs.length + m))).size = grownCap w (xs.length + m) c e := by
        have h0 : (Value.int .u8 0).cells.size = 1 := rfl
        simp only [Array.size_append, List.size_toArray, zeroCells_size, h0, hm]
        omega
      refine ⟨_, _, PH.one w.heap.size (.cells (xs.toArray ++ news.toArray ++ Builtin.zeroCells (Value.int .u8 0).cells (grownCap w (xs.length + m) c e - (xs.length + m))) e), hrun, .inr ⟨w.heap.size, _, _, _, (0, 0), rfl, by rw [List.length_append, hm], rfl, .inl rfl, hge, hcm, hsz, ?_⟩, ?_, hst.os, hst.tape, hst.output, hst.size, fun b hb _ => hst.block b hb (fun h => nomatch h), fun b hb => ?_⟩
      · rw [← hm, ← List.length_append]
        simp only [Array.toList_append, List.append_assoc]
        rw [← List.append_assoc xs news, List.take_left]
      · intro b u hb
        unfold PH.one at hb
        split at hb
        · rename_i e1; cases hb; subst e1; exact alloc_new w.drew _
        · cases hb
      · by_cases e1 : b = w.heap.size
        · exact .inr (by omega)
        · exact absurd (by simp [PH.one, e1]) hb
    rcases hrow with ⟨rfl, rfl, hno⟩ | ⟨g, n, cap, cur, fz, rfl, hn, rfl, hfz, h2, h3, h4, h5⟩
    · exact grown (v' := .slice none 0 0) rfl (by simpa using hpos) rfl
    · subst hn
      have hg : w.heap[g]? = some (.cells cur e fz) := hr g _ (by simp [PH.one])
      rcases Nat.lt_or_ge cap (xs.length + m) with hc | hc
      · refine grown (v' := .slice none 0 0) rfl hc (run_firstCells_some (P := P) w.drew i.size xs.length _ xs.length cap xs (by rw [hs]; simp) fun j u hj => ?_)
        rw [add_own]
        have hg' : w.drew.heap[g]? = some (.cells cur e fz) := hg
        rw [← h5, List.getElem?_take] at hj
        split at hj
        · simp only [World.cell?, hg', Option.isSome_none, Nat.zero_add]
          simpa using hj
        · cases hj
      · have hrun := run_app_room (P := P) (ty := ty) (off := 0) ht hu hd hi hlen (hfirst w rfl) hg hfz hc (by rw [hs, hm]; omega) h1
        have hst := step_setRow w g (wr cur.toList (0 + xs.length * i.size) news).toArray
        have hsize : (wr cur.toList (0 + xs.length * i.size) news).toArray.size = cur.size := by
          unfold wr; rw [hs]; simp; omega
        refine ⟨_, _, PH.one g (.cells (wr cur.toList (0 + xs.length * i.size) news).toArray e fz), hrun, .inr ⟨_, _, _, _, fz, rfl, by rw [List.length_append, hm], rfl, by rw [hsize]; exact hfz, hc, h3, by rw [hsize, h4], ?_⟩, ?_, hst.os, hst.tape, hst.output, hst.size, fun b hb hn => hst.block b hb (fun e1 => by cases e1; simp [PH.one] at hn), fun b hb => ?_⟩
        · rw [← hm, ← List.length_append]
          unfold wr
          rw [hs, Nat.zero_add, Nat.mul_one, h5]
          exact List.take_left
        · intro b u hb
          unfold PH.one at hb
          split at hb
          · rename_i e1; cases hb; rw [e1]; exact setRow_heap w g cur _ e _ hg
          · cases hb
        · by_cases e1 : b = g
          · subst e1; exact .inl (by simp [PH.one])
          · exact absurd (by simp [PH.one, e1]) hb
/-- A text put behind a row of bytes. -/
theorem Eff.appendBS {s x : Operand} {args : Array Operand} {tys : Array TypeId} {t u e : TypeId} {D ut uu : TD} {v : Value} {xs : List Value} {tx : ByteArray} {r : PH} {Rf : List PH}
    (ho : o.op = .call ⟨.builtin .append, args, tys⟩) (ha : args.toList = [s, x]) (htys : tys.toList = [t, u]) (ht : ty P t = some ut) (hut : ut.d = .slice e) (hu : ty P u = some uu) (huu : uu.d = .string) (hD : ty P e = some D) (hd1 : D.size = 1) (hd2 : D.bytes = 1) (hd3 : D.zero = .int .u8 0)
    (hs : evo S.L s = some (.v v)) (hx : evo S.L x = some (.v (.string tx))) (hp : S.R.Perm (r :: Rf)) (hrow : BRow r e v xs) (hb : xs.length + tx.size ≤ 1000000000000)
    (h : ∀ v' r', BRow r' e v' (xs ++ strCells tx) → κ ⟨setk S.L o.dst (.v v'), S.M, S.F, r' :: Rf, S.nx⟩) : Eff P n B st o S κ := by
  refine Eff.value fun a w hka hkw => ?_
  have hr : r.In w := (hkw.r r (hp.mem_iff.2 List.mem_cons_self)).1
  obtain rfl : args = #[s, x] := by cases args; simp at ha; simp [ha]
  obtain rfl : tys = #[t, u] := by cases tys; simp at htys; simp [htys]
  have ht' : P.underlying t = some (.slice e) := by rw [(ty_some ht).1, hut]
  have hu' : P.underlying u = some .string := by rw [(ty_some hu).1, huu]
  obtain ⟨_, i, hi, hi1, hi2, hi3⟩ := ty_some hD
  rw [hd1] at hi1
  rw [hd2] at hi2
  rw [hd3] at hi3
  obtain ⟨v', w', r', g1, g2, g3, g4, g5, g6, g7, g8, g9⟩ := run_app_brow (P := P) (w := w) (ty := o.type) (x := .string tx) (m := tx.size) (news := strCells tx) ht' hu' (.inr rfl) hi hi1 hi2 hi3 hrow hr (by simp [Builtin.lenOf]) (fun w0 _ => by rw [hi1]; exact run_firstCells_string (P := P) w0 1 tx) (strCells_length tx) (strCells_oneCell tx) hb
  refine ⟨.v v', w', S.M, S.F, r' :: Rf, S.nx, ?_, hkw.swapR hp g4 g5 g6 g7 g8 g3 g9 _ _, Stab.refl _ _ _ _, h v' r' g2⟩
  obtain ⟨dst, op, type, pos, after, guard⟩ := o
  subst ho
  simp only [execOp, resolve, invoke, builtin, Sem.run_bind, Sem.run_pure, Result.andThen_ok, List.map_toArray, List.map_cons, List.map_nil, hka.eval hs, hka.eval hx, AV.val_v, g1]
/-- Bytes put behind a row of bytes. -/
theorem Eff.appendBL {s x : Operand} {args : Array Operand} {tys : Array TypeId} {t e : TypeId} {D ut : TD} {v : Value} {xs ys : List Value} {p : Option Addr} {m c : Nat} {r : PH} {Rf : List PH}
    (ho : o.op = .call ⟨.builtin .append, args, tys⟩) (ha : args.toList = [s, x]) (htys : tys.toList = [t, t]) (ht : ty P t = some ut) (hut : ut.d = .slice e) (hD : ty P e = some D) (hd1 : D.size = 1) (hd2 : D.bytes = 1) (hd3 : D.zero = .int .u8 0)
    (hs : evo S.L s = some (.v v)) (hx : evo S.L x = some (.v (.slice p m c))) (hsrc : Src S.F p m ys) (h1 : ∀ u ∈ ys, u.oneCell' = true) (hp : S.R.Perm (r :: Rf)) (hrow : BRow r e v xs) (hb : xs.length + m ≤ 1000000000000)
    (h : ∀ v' r', BRow r' e v' (xs ++ ys) → κ ⟨setk S.L o.dst (.v v'), S.M, S.F, r' :: Rf, S.nx⟩) : Eff P n B st o S κ := by
  refine Eff.value fun a w hka hkw => ?_
  have hr : r.In w := (hkw.r r (hp.mem_iff.2 List.mem_cons_self)).1
  obtain rfl : args = #[s, x] := by cases args; simp at ha; simp [ha]
  obtain rfl : tys = #[t, t] := by cases tys; simp at htys; simp [htys]
  have ht' : P.underlying t = some (.slice e) := by rw [(ty_some ht).1, hut]
  obtain ⟨_, i, hi, hi1, hi2, hi3⟩ := ty_some hD
  rw [hd1] at hi1
  rw [hd2] at hi2
  rw [hd3] at hi3
  have hfirst : ∀ w0 : World, w0.heap = w.heap → (Builtin.firstCells i.size m (.slice p m c)).run P w0 = .ok ys.toArray w0 := by
    intro w0 hw0
    cases p with
    | none =>
      have hm : m = 0 := by
        rcases Nat.eq_zero_or_pos m with h0 | h0
        · exact h0
        · obtain ⟨a, h1, _⟩ := hsrc.2 h0
          cases h1
      subst hm
      obtain rfl : ys = [] := List.eq_nil_of_length_eq_zero hsrc.1
      rfl
    | some ad =>
      refine run_firstCells_some (P := P) w0 i.size m ad m c ys (by rw [hi1, hsrc.1, Nat.mul_one]) fun j u hj => ?_
      have hlt : j < ys.length := by
        rcases Nat.lt_or_ge j ys.length with h' | h'
        · exact h'
        · rw [List.getElem?_eq_none h'] at hj; cases hj
      obtain ⟨ad', q1, q2⟩ := hsrc.2 (by rw [← hsrc.1]; omega)
      cases q1
      have := hkw.f.cell ((PH.cells_get q2).2 j u hj)
      rw [← this]
      unfold World.cell?
      rw [hw0]
  obtain ⟨v', w', r', g1, g2, g3, g4, g5, g6, g7, g8, g9⟩ := run_app_brow (P := P) (w := w) (ty := o.type) (x := .slice p m c) (m := m) (news := ys) ht' ht' (.inl ⟨_, rfl⟩) hi hi1 hi2 hi3 hrow hr rfl hfirst hsrc.1 h1 hb
  refine ⟨.v v', w', S.M, S.F, r' :: Rf, S.nx, ?_, hkw.swapR hp g4 g5 g6 g7 g8 g3 g9 _ _, Stab.refl _ _ _ _, h v' r' g2⟩
  obtain ⟨dst, op, type, pos, after, guard⟩ := o
  subst ho
  simp only [execOp, resolve, invoke, builtin, Sem.run_bind, Sem.run_pure, Result.andThen_ok, List.map_toArray, List.map_cons, List.map_nil, hka.eval hs, hka.eval hx, AV.val_v, g1]
/-- A text as bytes. -/
theorem Eff.toBytes {s d e : TypeId} {x : Operand} {us ud D : TD} {tx : ByteArray} (ho : o.op = .convert s d x) (hs : ty P s = some us) (hus : us.d = .string) (hd : ty P d = some ud) (hud : ud.d = .slice e) (hD : ty P e = some D) (hdd : D.d = .int .u8)
    (hx : evo S.L x = some (.v (.string tx))) (hb : tx.size ≤ 1000000000000)
    (h : ∀ v' r', BRow r' e v' (strCells tx) → κ ⟨setk S.L o.dst (.v v'), S.M, S.F, r' :: S.R, S.nx⟩) : Eff P n B st o S κ := by
  refine Eff.value fun a w hka hkw => ?_
  have hrun := Go.Lib.run_convert_string_bytes (P := P) w s d e tx (u := .string) (by rw [(ty_some hs).1, hus]) (by rw [(ty_some hd).1, hud]) (by rw [(ty_some hD).1, hdd])
  have hge := grownCap_ge w tx.size 0 e
  have hcm := grownCap_le_maxLen w tx.size 0 e (by unfold maxLen; omega)
  have hcs : (bytesCells w e tx).size = grownCap w tx.size 0 e := by
    have hd : tx.data.size = tx.size := rfl
    simp only [bytesCells, Array.size_append, Array.size_map, Array.size_replicate, hd]
    omega
  refine ⟨.v (.slice (some ⟨w.heap.size, 0, none⟩) tx.size (grownCap w tx.size 0 e)), bytesWorld w e tx, S.M, S.F, PH.one w.heap.size (.cells (bytesCells w e tx) e ((bytesCells w e tx).size, (bytesCells w e tx).size + 1)) :: S.R, S.nx, ?_, ?_, Stab.refl _ _ _ _, h _ _ (.inr ⟨_, _, _, _, _, rfl, strCells_length tx, rfl, .inr (Nat.le_refl _), hge, hcm, hcs, ?_⟩)⟩
  · obtain ⟨dst, op, type, pos, after, guard⟩ := o
    subst ho
    have e1 : execOp a.eval ⟨dst, .convert s d x, type, pos, after, guard⟩ = (do pure (.value (← convert s d (a.eval x)))) := rfl
    rw [e1]
    simp only [Sem.run_bind, hka.eval hx, AV.val_v, hrun, Result.andThen_ok]
    rfl
  · refine hkw.emp.swapR (w' := bytesWorld w e tx) (r := PH.emp) (Rf := S.R) (List.Perm.refl _) rfl rfl rfl (by rw [bytesWorld_size]; omega) (fun b hb _ => bytesWorld_at_old w e tx b hb) ?_ (fun b hb => .inr ?_) _ _
    · intro b u hb
      unfold PH.one at hb
      split at hb
      · rename_i e1; cases hb; subst e1; exact bytesWorld_at_new w e tx
      · cases hb
    · by_cases e1 : b = w.heap.size
      · omega
      · exact absurd (by simp [PH.one, e1]) hb
  · have hd : (strCells tx).length = tx.size := strCells_length tx
    simp only [bytesCells, Array.toList_append, Array.toList_map]
    show ((tx.data.toList.map fun b => Value.int .u8 b.toNat) ++ _).take tx.size = strCells tx
    rw [← hd]
    exact List.take_left
/-- What comes of an operation is lent no more from here on. -/
theorem Eff.fz {κ : St → Prop} (h : Eff P n B st o S (fun S1 => ∃ r Rf, S1.R.Perm (r :: Rf) ∧ ∀ F', S1.F.le F' → r.le F' → κ ⟨S1.L, S1.M, F', Rf, S1.nx⟩)) : Eff P n B st o S κ :=
  fun a w ha hw K Q hK => h a w ha hw K Q fun y w' S' h1 h2 h3 ⟨r, Rf, hp, hk⟩ => by
    obtain ⟨F', f1, f2, f3⟩ := h2.freezeR hp S'.L S'.nx
    exact hK y w' ⟨S'.L, S'.M, F', Rf, S'.nx⟩ h1 f3 (fun e e' => let ⟨g1, g2⟩ := h3 e e'; ⟨PH.le_trans g1 f1, g2⟩) (hk F' f1 f2)
/-- Bytes behind bytes that are full and never turn: what comes never turns either. -/
theorem Eff.appendFz {s x : Operand} {args : Array Operand} {tys : Array TypeId} {t e : TypeId} {D ut : TD} {a0 : Addr} {n0 m c : Nat} {xs ys : List Value} {p : Option Addr}
    (ho : o.op = .call ⟨.builtin .append, args, tys⟩) (ha : args.toList = [s, x]) (htys : tys.toList = [t, t]) (ht : ty P t = some ut) (hut : ut.d = .slice e) (hD : ty P e = some D) (hd1 : D.size = 1) (hd2 : D.bytes = 1) (hd3 : D.zero = .int .u8 0)
    (hs : evo S.L s = some (.v (.slice (some a0) n0 n0))) (hx : evo S.L x = some (.v (.slice p m c))) (hold : Src S.F (some a0) n0 xs) (hsrc : Src S.F p m ys) (hb : n0 + m ≤ 1000000000)
    (h : ∀ a' c' F', S.F.le F' → Sl F' 1 (.slice (some a') (n0 + m) c') (n0 + m) (xs ++ ys) → κ ⟨setk S.L o.dst (.v (.slice (some a') (n0 + m) c')), S.M, F', S.R, S.nx⟩) : Eff P n B st o S κ := by
  rcases Nat.eq_zero_or_pos m with hm | hm
  · subst hm
    obtain rfl : ys = [] := List.eq_nil_of_length_eq_zero hsrc.1
    refine Eff.value fun a w hka hkw => ?_
    obtain rfl : args = #[s, x] := by cases args; simp at ha; simp [ha]
    obtain rfl : tys = #[t, t] := by cases tys; simp at htys; simp [htys]
    have ht' : P.underlying t = some (.slice e) := by rw [(ty_some ht).1, hut]
    obtain ⟨_, i, hi, hi1, hi2, hi3⟩ := ty_some hD
    have hfirst : (Builtin.firstCells i.size 0 (.slice p 0 c)).run P w = .ok #[] w := by
      cases p with
      | none => rfl
      | some ad => simp [Builtin.firstCells, loadCells, loadCellsFrom]
    have hrun := run_app_none (P := P) (ty := o.type) (w := w) (x := .slice p 0 c) (ad := a0) ht' ht' (.inl ⟨_, rfl⟩) hi (Nat.le_refl n0) rfl hfirst
    refine ⟨.v (.slice (some a0) n0 n0), w, S.M, S.F, S.R, S.nx, ?_, hkw, Stab.refl _ _ _ _, h a0 n0 S.F (PH.le_refl _) ⟨_, _, rfl, Nat.le_refl _, by unfold maxLen; omega, by simpa using hold⟩⟩
    obtain ⟨dst, op, type, pos, after, guard⟩ := o
    subst ho
    simp only [execOp, resolve, invoke, builtin, Sem.run_bind, Sem.run_pure, Result.andThen_ok, List.map_toArray, List.map_cons, List.map_nil, hka.eval hs, hka.eval hx, AV.val_v, hrun]
  · refine Eff.fz (Eff.appendG ho ha htys ht hut hD (by rw [hd1, hd3]; rfl) (by omega) hs hx (by rw [hd1, Nat.mul_one]; exact hold) (by rw [hd1, Nat.mul_one]; exact hsrc) (Nat.le_refl _) (by omega) (by rw [hold.1, hsrc.1]; omega) (by omega) fun v' r' hrow => ⟨r', S.R, List.Perm.refl _, fun F' h1 h2 => ?_⟩)
    rw [hd1] at hrow
    have hlen : (xs ++ ys).length = n0 + m := by rw [List.length_append, hold.1, hsrc.1]
    obtain ⟨k, k1, k2⟩ := hrow.sl h2
    rw [hlen, Nat.mul_one] at k1
    subst k1
    obtain ⟨p', c', rfl, k3, k4, k5⟩ := k2
    obtain ⟨a', rfl, _⟩ := k5.2 (by omega)
    exact h a' c' F' h1 ⟨_, _, rfl, k3, k4, k5⟩
end
end Go.Eng
