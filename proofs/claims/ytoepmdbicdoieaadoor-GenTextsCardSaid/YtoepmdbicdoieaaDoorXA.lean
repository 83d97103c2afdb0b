/- My texts X1 X2 X3, in one. -/
import Derived.Test.YtoepmdbicdoieaaDoorEC
import Derived.Test.YtoepmdbicdoieaaDoorRows
import Derived.ChangeArms
/- Programs as data: expressions, forms, binds, alternatives; and how they lie in memory. -/
namespace Go.Eng
open Go Go.RowKit
set_option linter.unusedSimpArgs false
set_option linter.unusedVariables false
mutual
inductive Exp where
  | mk (kind at_ : Int) (name : ByteArray) (n : Int) (atoms : List (ByteArray × Int)) (binds : List Bind) (kids : List Exp) (alts : List Alt)
inductive Bind where
  | mk (name : ByteArray) (at_ : Int) (args : List ByteArray) (body : Exp)
inductive Alt where
  | mk (kind at_ : Int) (name : ByteArray) (n : Int) (vars : List ByteArray) (body : Exp)
end
def Exp.kind : Exp → Int | .mk k _ _ _ _ _ _ _ => k
def Exp.at_ : Exp → Int | .mk _ a _ _ _ _ _ _ => a
def Exp.name : Exp → ByteArray | .mk _ _ s _ _ _ _ _ => s
def Exp.n : Exp → Int | .mk _ _ _ n _ _ _ _ => n
def Exp.atoms : Exp → List (ByteArray × Int) | .mk _ _ _ _ l _ _ _ => l
def Exp.binds : Exp → List Bind | .mk _ _ _ _ _ l _ _ => l
def Exp.kids : Exp → List Exp | .mk _ _ _ _ _ _ l _ => l
def Exp.alts : Exp → List Alt | .mk _ _ _ _ _ _ _ l => l
def Bind.name : Bind → ByteArray | .mk s _ _ _ => s
def Bind.at_ : Bind → Int | .mk _ a _ _ => a
def Bind.args : Bind → List ByteArray | .mk _ _ l _ => l
def Bind.body : Bind → Exp | .mk _ _ _ e => e
def Alt.kind : Alt → Int | .mk k _ _ _ _ _ => k
def Alt.at_ : Alt → Int | .mk _ a _ _ _ _ => a
def Alt.name : Alt → ByteArray | .mk _ _ s _ _ _ => s
def Alt.n : Alt → Int | .mk _ _ _ n _ _ => n
def Alt.vars : Alt → List ByteArray | .mk _ _ _ _ l _ => l
def Alt.body : Alt → Exp | .mk _ _ _ _ _ e => e

/-- A slice of texts. -/
def Strs (F : PH) (v : Value) (l : List ByteArray) : Prop := Sl F 1 v l.length (l.map .string)
theorem Strs.mono {F G : PH} {v : Value} {l : List ByteArray} (h : Strs F v l) (hl : F.le G) : Strs G v l := Sl.mono h hl
def atomVals : List (ByteArray × Int) → List Value
  | [] => []
  | a :: l => .string a.1 :: .int .i64 a.2 :: atomVals l
/-- A row of elements, one behind the other. -/
def Each {α : Type} (R : α → List Value → Prop) : List α → List Value → Prop
  | [], xs => xs = []
  | a :: l, xs => ∃ c ys, xs = c ++ ys ∧ R a c ∧ Each R l ys
mutual
def RExp (F : PH) : Exp → List Value → Prop
  | .mk k a s n ats bs es ls, cs => ∃ va vb ve vl, cs = [.int .i64 k, .int .i64 a, .string s, .int .i64 n, va, vb, ve, vl] ∧ Sl F 2 va ats.length (atomVals ats) ∧
      (∃ xs, Sl F 11 vb bs.length xs ∧ RBinds F bs xs) ∧ (∃ xs, Sl F 8 ve es.length xs ∧ RExps F es xs) ∧ ∃ xs, Sl F 13 vl ls.length xs ∧ RAlts F ls xs
def RBind (F : PH) : Bind → List Value → Prop
  | .mk s a l e, cs => ∃ v c, cs = .string s :: .int .i64 a :: v :: c ∧ Strs F v l ∧ RExp F e c
def RAlt (F : PH) : Alt → List Value → Prop
  | .mk k a s n l e, cs => ∃ v c, cs = .int .i64 k :: .int .i64 a :: .string s :: .int .i64 n :: v :: c ∧ Strs F v l ∧ RExp F e c
def RExps (F : PH) : List Exp → List Value → Prop
  | [], xs => xs = []
  | e :: l, xs => ∃ c ys, xs = c ++ ys ∧ RExp F e c ∧ RExps F l ys
def RBinds (F : PH) : List Bind → List Value → Prop
  | [], xs => xs = []
  | e :: l, xs => ∃ c ys, xs = c ++ ys ∧ RBind F e c ∧ RBinds F l ys
def RAlts (F : PH) : List Alt → List Value → Prop
  | [], xs => xs = []
  | e :: l, xs => ∃ c ys, xs = c ++ ys ∧ RAlt F e c ∧ RAlts F l ys
end
theorem RExps_each {F : PH} : ∀ {l : List Exp} {xs : List Value}, RExps F l xs ↔ Each (RExp F) l xs
  | [], xs => by simp [RExps, Each]
  | e :: l, xs => by simp only [RExps, Each, RExps_each]
theorem RBinds_each {F : PH} : ∀ {l : List Bind} {xs : List Value}, RBinds F l xs ↔ Each (RBind F) l xs
  | [], xs => by simp [RBinds, Each]
  | e :: l, xs => by simp only [RBinds, Each, RBinds_each]
theorem RAlts_each {F : PH} : ∀ {l : List Alt} {xs : List Value}, RAlts F l xs ↔ Each (RAlt F) l xs
  | [], xs => by simp [RAlts, Each]
  | e :: l, xs => by simp only [RAlts, Each, RAlts_each]
/-- A slice of elements that lie so. -/
def SlE {α : Type} (F : PH) (sz : Nat) (R : α → List Value → Prop) (v : Value) (l : List α) : Prop := ∃ xs, Sl F sz v l.length xs ∧ Each R l xs
/-- The fields of an expression. -/
structure ExpAt (F : PH) (e : Exp) (va vb ve vl : Value) : Prop where
  atoms : Sl F 2 va e.atoms.length (atomVals e.atoms)
  binds : SlE F 11 (RBind F) vb e.binds
  kids : SlE F 8 (RExp F) ve e.kids
  alts : SlE F 13 (RAlt F) vl e.alts
abbrev expCells (e : Exp) (va vb ve vl : Value) : List Value := [.int .i64 e.kind, .int .i64 e.at_, .string e.name, .int .i64 e.n, va, vb, ve, vl]
theorem RExp_iff {F : PH} {e : Exp} {cs : List Value} : RExp F e cs ↔ ∃ va vb ve vl, cs = expCells e va vb ve vl ∧ ExpAt F e va vb ve vl := by
  cases e with
  | mk k a s n ats bs es ls =>
    simp only [RExp, RBinds_each, RExps_each, RAlts_each]
    exact ⟨fun ⟨va, vb, ve, vl, h, h1, h2, h3, h4⟩ => ⟨va, vb, ve, vl, h, h1, h2, h3, h4⟩, fun ⟨va, vb, ve, vl, h, h1, h2, h3, h4⟩ => ⟨va, vb, ve, vl, h, h1, h2, h3, h4⟩⟩
theorem RBind_iff {F : PH} {b : Bind} {cs : List Value} : RBind F b cs ↔ ∃ v c, cs = .string b.name :: .int .i64 b.at_ :: v :: c ∧ Strs F v b.args ∧ RExp F b.body c := by
  cases b with
  | mk s a l e => simp only [RBind, Bind.name, Bind.at_, Bind.args, Bind.body]
theorem RAlt_iff {F : PH} {b : Alt} {cs : List Value} : RAlt F b cs ↔ ∃ v c, cs = .int .i64 b.kind :: .int .i64 b.at_ :: .string b.name :: .int .i64 b.n :: v :: c ∧ Strs F v b.vars ∧ RExp F b.body c := by
  cases b with
  | mk k a s n l e => simp only [RAlt, Alt.kind, Alt.at_, Alt.name, Alt.n, Alt.vars, Alt.body]
theorem RExp.len {F : PH} {e : Exp} {cs : List Value} (h : RExp F e cs) : cs.length = 8 := by
  obtain ⟨va, vb, ve, vl, rfl, _⟩ := RExp_iff.1 h; rfl
theorem RBind.len {F : PH} {b : Bind} {cs : List Value} (h : RBind F b cs) : cs.length = 11 := by
  obtain ⟨v, c, rfl, _, h⟩ := RBind_iff.1 h; simp [h.len]
theorem RAlt.len {F : PH} {b : Alt} {cs : List Value} (h : RAlt F b cs) : cs.length = 13 := by
  obtain ⟨v, c, rfl, _, h⟩ := RAlt_iff.1 h; simp [h.len]
theorem Each.mono {α : Type} {R R' : α → List Value → Prop} : ∀ {l : List α} {xs : List Value}, Each R l xs → (∀ a ∈ l, ∀ c, R a c → R' a c) → Each R' l xs
  | [], _, h, _ => h
  | a :: l, _, ⟨c, ys, e, h1, h2⟩, h => ⟨c, ys, e, h a List.mem_cons_self _ h1, Each.mono h2 fun b hb => h b (List.mem_cons_of_mem _ hb)⟩
theorem Each.at {α : Type} {R : α → List Value → Prop} {sz : Nat} (hsz : ∀ a c, R a c → c.length = sz) : ∀ {l : List α} {xs : List Value} (_ : Each R l xs) {i : Nat} {a : α}, l[i]? = some a → R a ((xs.drop (i * sz)).take sz)
  | a :: l, _, ⟨c, ys, e, h1, h2⟩, 0, b, hb => by
    cases hb
    subst e
    simp [List.take_append_of_le_length, hsz _ _ h1, List.take_of_length_le]
    exact h1
  | a :: l, _, ⟨c, ys, e, h1, h2⟩, i + 1, b, hb => by
    subst e
    have hl := hsz _ _ h1
    have := Each.at hsz h2 (i := i) (a := b) (by simpa using hb)
    rw [List.drop_append, hl, show (i + 1) * sz - sz = i * sz from by rw [Nat.succ_mul]; omega, List.drop_of_length_le (by rw [hl, Nat.succ_mul]; omega)]
    simpa using this
theorem Each.len {α : Type} {R : α → List Value → Prop} {sz : Nat} (hsz : ∀ a c, R a c → c.length = sz) : ∀ {l : List α} {xs : List Value}, Each R l xs → xs.length = l.length * sz
  | [], _, h => by subst h; simp
  | a :: l, _, ⟨c, ys, e, h1, h2⟩ => by subst e; rw [List.length_append, hsz _ _ h1, Each.len hsz h2, List.length_cons, Nat.succ_mul]; omega
theorem SlE.mono {α : Type} {F G : PH} {sz : Nat} {R R' : α → List Value → Prop} {v : Value} {l : List α} (h : SlE F sz R v l) (hl : F.le G) (hR : ∀ a ∈ l, ∀ c, R a c → R' a c) : SlE G sz R' v l :=
  let ⟨xs, h1, h2⟩ := h; ⟨xs, h1.mono hl, h2.mono hR⟩
/-- An element of such a slice, as the walk loads it. -/
theorem SlE.elem {α : Type} {F : PH} {sz : Nat} {R : α → List Value → Prop} {v : Value} {l : List α} (h : SlE F sz R v l) (hpos : 0 < sz) {i : Nat} {a : α} (ha : l[i]? = some a) (hsz : ∀ a c, R a c → c.length = sz) :
    ∃ p c cs, v = .slice (some p) l.length c ∧ l.length ≤ c ∧ c ≤ maxLen ∧ F.cells (p.add (i * sz)) sz = some cs ∧ R a cs := by
  obtain ⟨xs, ⟨p, c, rfl, h1, h2, h3⟩, h4⟩ := h
  have hi : i < l.length := by
    rcases Nat.lt_or_ge i l.length with h' | h'
    · exact h'
    · rw [List.getElem?_eq_none h'] at ha; cases ha
  obtain ⟨q, rfl, hq⟩ := h3.elem hi hpos
  exact ⟨q, c, _, rfl, h1, h2, hq, h4.at hsz ha⟩
theorem SlE.val {α : Type} {F : PH} {sz : Nat} {R : α → List Value → Prop} {v : Value} {l : List α} (h : SlE F sz R v l) : ∃ p c, v = .slice p l.length c ∧ l.length ≤ c ∧ c ≤ maxLen := by
  obtain ⟨xs, ⟨p, c, rfl, h1, h2, h3⟩, h4⟩ := h
  exact ⟨p, c, rfl, h1, h2⟩
theorem ExpAt.slices {F : PH} {e : Exp} {va vb ve vl : Value} (h : ExpAt F e va vb ve vl) : ∃ pa ca pb cb pe ce pl cl, va = .slice pa e.atoms.length ca ∧ vb = .slice pb e.binds.length cb ∧ ve = .slice pe e.kids.length ce ∧ vl = .slice pl e.alts.length cl := by
  obtain ⟨⟨pa, ca, rfl, _⟩, hb, hk, hl⟩ := h
  obtain ⟨pb, cb, rfl, _⟩ := hb.val
  obtain ⟨pk, ck, rfl, _⟩ := hk.val
  obtain ⟨pl, cl, rfl, _⟩ := hl.val
  exact ⟨pa, ca, pb, cb, pk, ck, pl, cl, rfl, rfl, rfl, rfl⟩
mutual
theorem RExp.mono {F G : PH} (hl : F.le G) : ∀ {e : Exp} {cs : List Value}, RExp F e cs → RExp G e cs
  | .mk k a s n ats bs es ls, cs, h => by
    obtain ⟨va, vb, ve, vl, h, h1, ⟨x2, h2, h2'⟩, ⟨x3, h3, h3'⟩, x4, h4, h4'⟩ := h
    exact ⟨va, vb, ve, vl, h, h1.mono hl, ⟨x2, h2.mono hl, RBinds.mono hl h2'⟩, ⟨x3, h3.mono hl, RExps.mono hl h3'⟩, x4, h4.mono hl, RAlts.mono hl h4'⟩
theorem RBind.mono {F G : PH} (hl : F.le G) : ∀ {e : Bind} {cs : List Value}, RBind F e cs → RBind G e cs
  | .mk s a l e, cs, h => by
    obtain ⟨v, c, h, h1, h2⟩ := h
    exact ⟨v, c, h, h1.mono hl, RExp.mono hl h2⟩
theorem RAlt.mono {F G : PH} (hl : F.le G) : ∀ {e : Alt} {cs : List Value}, RAlt F e cs → RAlt G e cs
  | .mk k a s n l e, cs, h => by
    obtain ⟨v, c, h, h1, h2⟩ := h
    exact ⟨v, c, h, h1.mono hl, RExp.mono hl h2⟩
theorem RExps.mono {F G : PH} (hl : F.le G) : ∀ {l : List Exp} {cs : List Value}, RExps F l cs → RExps G l cs
  | [], cs, h => h
  | e :: l, cs, h => by
    obtain ⟨c, ys, h, h1, h2⟩ := h
    exact ⟨c, ys, h, RExp.mono hl h1, RExps.mono hl h2⟩
theorem RBinds.mono {F G : PH} (hl : F.le G) : ∀ {l : List Bind} {cs : List Value}, RBinds F l cs → RBinds G l cs
  | [], cs, h => h
  | e :: l, cs, h => by
    obtain ⟨c, ys, h, h1, h2⟩ := h
    exact ⟨c, ys, h, RBind.mono hl h1, RBinds.mono hl h2⟩
theorem RAlts.mono {F G : PH} (hl : F.le G) : ∀ {l : List Alt} {cs : List Value}, RAlts F l cs → RAlts G l cs
  | [], cs, h => h
  | e :: l, cs, h => by
    obtain ⟨c, ys, h, h1, h2⟩ := h
    exact ⟨c, ys, h, RAlt.mono hl h1, RAlts.mono hl h2⟩
end
theorem ExpAt.mono {F G : PH} {e : Exp} {va vb ve vl : Value} (h : ExpAt F e va vb ve vl) (hl : F.le G) : ExpAt G e va vb ve vl :=
  ⟨h.atoms.mono hl, h.binds.mono hl (fun _ _ _ h => h.mono hl), h.kids.mono hl (fun _ _ _ h => h.mono hl), h.alts.mono hl (fun _ _ _ h => h.mono hl)⟩
end Go.Eng

/- Programs as data: what a reading of the arguments gives. -/
namespace Go.Eng
open Go Go.RowKit Go.Proofs.YtoepmdbicdoieaaDoor.Rows
set_option linter.unusedSimpArgs false
set_option linter.unusedVariables false
abbrev I64 (n : Int) : Prop := -9223372036854775808 ≤ n ∧ n ≤ 9223372036854775807
/-- How large: as a reading of it counts. -/
def sizeS : List ByteArray → Nat
  | [] => 0
  | s :: l => s.size + 1 + sizeS l
def sizeA : List (ByteArray × Int) → Nat
  | [] => 0
  | a :: l => a.1.size + 3 + sizeA l
mutual
def Exp.size : Exp → Nat | .mk k a s n ats bs es ls => s.size + 1 + sizeA ats + sizeBs bs + sizeEs es + sizeLs ls
def Bind.size : Bind → Nat | .mk s a l e => s.size + 1 + sizeS l + e.size
def Alt.size : Alt → Nat | .mk k a s n l e => s.size + 1 + sizeS l + e.size
def sizeEs : List Exp → Nat | [] => 0 | e :: l => e.size + sizeEs l
def sizeBs : List Bind → Nat | [] => 0 | e :: l => e.size + sizeBs l
def sizeLs : List Alt → Nat | [] => 0 | e :: l => e.size + sizeLs l
end
mutual
def Exp.ok : Exp → Prop | .mk k a s n ats bs es ls => I64 k ∧ I64 a ∧ I64 n ∧ s.size ≤ maxLen ∧ (∀ x ∈ ats, I64 x.2 ∧ x.1.size ≤ maxLen) ∧ okBs bs ∧ okEs es ∧ okLs ls
def Bind.ok : Bind → Prop | .mk s a l e => I64 a ∧ s.size ≤ maxLen ∧ (∀ x ∈ l, x.size ≤ maxLen) ∧ e.ok
def Alt.ok : Alt → Prop | .mk k a s n l e => I64 k ∧ I64 a ∧ I64 n ∧ s.size ≤ maxLen ∧ (∀ x ∈ l, x.size ≤ maxLen) ∧ e.ok
def okEs : List Exp → Prop | [] => True | e :: l => e.ok ∧ okEs l
def okBs : List Bind → Prop | [] => True | e :: l => e.ok ∧ okBs l
def okLs : List Alt → Prop | [] => True | e :: l => e.ok ∧ okLs l
end
theorem sizeS_len : ∀ (l : List ByteArray), l.length ≤ sizeS l
  | [] => by simp
  | e :: l => by
    have := sizeS_len l
    simp only [sizeS, List.length_cons]; omega
section
variable {H : Type} {enc : TypeId × Value → H} {P : Program} {w : World} {base : Nat} {spare : Nat → Bool} {held : Bool}
/-- A struct's fields: their types, and where they lie. -/
def fieldsOf (P : Program) (t : TypeId) (l : List (TypeId × Nat)) : Prop := ∃ fs, P.underlying t = some (.struct fs) ∧ fs.toList.map (fun f => (f.type, f.offset)) = l
theorem reads_struct {t : TypeId} {l : List (TypeId × Nat)} {fuel : Nat} {cs : List Value} {x : DataW H × List MemPlace} (ht : fieldsOf P t l) (h : DataW.trod enc P w base spare held fuel t cs = some x) :
    ∃ (xs : List (DataW H × List MemPlace)) (n : Nat), fuel = n + 1 ∧ x.1 = .agg (xs.map (·.1)) ∧ cs.length = P.cellsOf t ∧ xs.length = l.length ∧ ∀ (i : Nat) (ft : TypeId) (off : Nat), l[i]? = some (ft, off) → DataW.trod enc P w base spare held n ft ((cs.drop off).take (P.cellsOf ft)) = xs[i]? := by
  obtain ⟨fs, h1, h2⟩ := ht
  obtain ⟨xs, n, rfl, rfl, h3, h4, h5⟩ := DataW.trod_struct h1 h
  refine ⟨xs, n, rfl, rfl, h3, by rw [h4, ← h2]; simp, fun i ft off hi => ?_⟩
  rw [← h2, List.getElem?_map] at hi
  cases hf : fs.toList[i]? with
  | none => rw [hf] at hi; cases hi
  | some f =>
    rw [hf] at hi
    cases hi
    exact h5 i f (by simpa using hf)
/-- The types of which an expression is made. -/
structure ExpTys where
  int : TypeId
  i64 : TypeId
  str : TypeId
  strs : TypeId
  atom : TypeId
  atoms : TypeId
  exp : TypeId
  exps : TypeId
  bind : TypeId
  binds : TypeId
  alt : TypeId
  alts : TypeId
  form : TypeId
structure ExpTys.In (T : ExpTys) (P : Program) : Prop where
  int : P.underlying T.int = some (.int .i64) ∧ P.cellsOf T.int = 1
  i64 : P.underlying T.i64 = some (.int .i64) ∧ P.cellsOf T.i64 = 1
  str : P.underlying T.str = some .string ∧ P.cellsOf T.str = 1
  strs : P.underlying T.strs = some (.slice T.str) ∧ P.cellsOf T.strs = 1
  atom : fieldsOf P T.atom [(T.str, 0), (T.i64, 1)] ∧ P.cellsOf T.atom = 2
  atoms : P.underlying T.atoms = some (.slice T.atom) ∧ P.cellsOf T.atoms = 1
  exp : fieldsOf P T.exp [(T.int, 0), (T.int, 1), (T.str, 2), (T.i64, 3), (T.atoms, 4), (T.binds, 5), (T.exps, 6), (T.alts, 7)] ∧ P.cellsOf T.exp = 8
  exps : P.underlying T.exps = some (.slice T.exp) ∧ P.cellsOf T.exps = 1
  bind : fieldsOf P T.bind [(T.str, 0), (T.int, 1), (T.form, 2)] ∧ P.cellsOf T.bind = 11
  binds : P.underlying T.binds = some (.slice T.bind) ∧ P.cellsOf T.binds = 1
  alt : fieldsOf P T.alt [(T.int, 0), (T.int, 1), (T.str, 2), (T.i64, 3), (T.strs, 4), (T.exp, 5)] ∧ P.cellsOf T.alt = 13
  alts : P.underlying T.alts = some (.slice T.alt) ∧ P.cellsOf T.alts = 1
  form : fieldsOf P T.form [(T.strs, 0), (T.exp, 1)] ∧ P.cellsOf T.form = 9
end
end Go.Eng

/- Programs as data: how large their parts are. -/
namespace Go.Eng
open Go Go.RowKit
set_option linter.unusedSimpArgs false
set_option linter.unusedVariables false
theorem sizeA_len (l : List (ByteArray × Int)) : l.length ≤ sizeA l := by
  induction l with
  | nil => simp
  | cons a l ih => simp only [sizeA, List.length_cons]; omega
theorem sizeEs_mem {e : Exp} : ∀ {l : List Exp}, e ∈ l → e.size ≤ sizeEs l
  | a :: l, h => by
    simp only [sizeEs]
    rcases List.mem_cons.1 h with rfl | h
    · omega
    · have := sizeEs_mem h; omega
theorem sizeBs_mem {e : Bind} : ∀ {l : List Bind}, e ∈ l → e.size ≤ sizeBs l
  | a :: l, h => by
    simp only [sizeBs]
    rcases List.mem_cons.1 h with rfl | h
    · omega
    · have := sizeBs_mem h; omega
theorem sizeLs_mem {e : Alt} : ∀ {l : List Alt}, e ∈ l → e.size ≤ sizeLs l
  | a :: l, h => by
    simp only [sizeLs]
    rcases List.mem_cons.1 h with rfl | h
    · omega
    · have := sizeLs_mem h; omega
theorem sizeBs_count : ∀ l : List Bind, l.length ≤ sizeBs l
  | [] => by simp
  | a :: l => by
    have := sizeBs_count l
    cases a
    simp only [sizeBs, Bind.size, List.length_cons]; omega
theorem sizeBs_take : ∀ (l : List Bind) (k : Nat), sizeBs (l.take k) ≤ sizeBs l
  | [], k => by simp
  | a :: l, 0 => by simp [sizeBs]
  | a :: l, k + 1 => by
    have := sizeBs_take l k
    simp only [List.take_succ_cons, sizeBs]; omega
theorem sizeLs_take : ∀ (l : List Alt) (k : Nat), sizeLs (l.take k) ≤ sizeLs l
  | [], k => by simp
  | a :: l, 0 => by simp [sizeLs]
  | a :: l, k + 1 => by
    have := sizeLs_take l k
    simp only [List.take_succ_cons, sizeLs]; omega
theorem size_eq (e : Exp) : e.size = e.name.size + 1 + sizeA e.atoms + sizeBs e.binds + sizeEs e.kids + sizeLs e.alts := by cases e; rfl
theorem bsize_eq (e : Bind) : e.size = e.name.size + 1 + sizeS e.args + e.body.size := by cases e; rfl
theorem asize_eq (e : Alt) : e.size = e.name.size + 1 + sizeS e.vars + e.body.size := by cases e; rfl
theorem sizeLs_count : ∀ l : List Alt, l.length ≤ sizeLs l
  | [] => Nat.le_refl _
  | a :: l => by
    have h1 := sizeLs_count l
    have h2 : 1 ≤ a.size := by cases a; simp only [Alt.size]; omega
    simp only [sizeLs, List.length_cons]; omega
/-- One of them, and how many there are. -/
theorem sizeBs_mem2 : ∀ (l : List Bind) (i : Nat) (h : i < l.length), (l[i]).size + l.length ≤ sizeBs l + 1
  | a :: l, 0, _ => by
    have := sizeBs_count l
    simp only [sizeBs, List.getElem_cons_zero, List.length_cons]; omega
  | a :: l, i + 1, h => by
    have h1 := sizeBs_mem2 l i (by simpa using h)
    have h2 : 1 ≤ a.size := by cases a; simp only [Bind.size]; omega
    simp only [sizeBs, List.getElem_cons_succ, List.length_cons]; omega
end Go.Eng
