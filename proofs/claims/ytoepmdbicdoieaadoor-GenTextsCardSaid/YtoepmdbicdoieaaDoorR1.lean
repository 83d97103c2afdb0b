/- The reader of the definition, as a relation between tokens and what is read. -/
import Derived.Test.YtoepmdbicdoieaaDoorB6
import Derived.Test.YtoepmdbicdoieaaDoorXA
namespace Go.Proofs.YtoepmdbicdoieaaDoor.X
open Go Go.Eng Go.Proofs Go.Proofs.YtoepmdbicdoieaaDoor.T Go.Proofs.YtoepmdbicdoieaaDoor.K
set_option linter.unusedSimpArgs false
set_option linter.unusedVariables false
structure Rd where
  at_ : Nat
  bad : Bool
  es : Int
  en : Int
abbrev rdC (vl : Value) (e : Int) (r : Rd) : List Value := [vl, .int .i64 r.at_, .int .i64 e, .bool r.bad, .int .i64 r.es, .int .i64 r.en]
def tokR (l : List Tok) (e : Int) (r : Rd) : Tok := (if r.bad then none else l[r.at_]?).getD ⟨0, ⟨#[]⟩, 0, e⟩
def failR (l : List Tok) (e : Int) (r : Rd) (x : Int) : Rd := if r.bad then r else ⟨r.at_, true, x, (tokR l e r).at_⟩
def onR (r : Rd) : Rd := if r.bad then r else ⟨r.at_ + 1, r.bad, r.es, r.en⟩
def isR (l : List Tok) (e : Int) (r : Rd) (s : ByteArray) : Bool := ((decide ((tokR l e r).k = 5) || decide ((tokR l e r).k = 6)) && decide ((tokR l e r).tx = s))
def wantR (l : List Tok) (e : Int) (r : Rd) (s : ByteArray) : Rd := if isR l e r s then onR r else failR l e r 23
def kindT (l : List Tok) (e : Int) (r : Rd) (k : Int) : Tok := if (tokR l e r).k = k then tokR l e r else ⟨0, ⟨#[]⟩, 0, 0⟩
def kindR (l : List Tok) (e : Int) (r : Rd) (k : Int) : Rd := if (tokR l e r).k = k then onR r else failR l e r 23
/-- The names that stand next. -/
inductive NamesR (l : List Tok) (e : Int) : Rd → List ByteArray → Rd → Prop
  | done {r : Rd} (h : ¬ (tokR l e r).k = 1) : NamesR l e r [] r
  | more {r : Rd} {ns : List ByteArray} {s : Rd} (h : (tokR l e r).k = 1) (t : NamesR l e (onR r) ns s) : NamesR l e r ((tokR l e r).tx :: ns) s
/-- The atoms that stand next. -/
inductive AtomsR (l : List Tok) (e : Int) : Rd → List (ByteArray × Int) → Rd → Prop
  | done {r : Rd} (h : ¬ ((tokR l e r).k = 1 ∨ (tokR l e r).k = 4)) : AtomsR l e r [] r
  | more {r : Rd} {ns : List (ByteArray × Int)} {s : Rd} (h : (tokR l e r).k = 1 ∨ (tokR l e r).k = 4) (t : AtomsR l e (onR r) ns s) : AtomsR l e r (((tokR l e r).tx, (tokR l e r).n) :: ns) s
/-- All that stand next, up to a sign }. -/
inductive ManyR {β : Type} (l : List Tok) (e : Int) (B : Rd → β → Rd → Prop) : Rd → List β → Rd → Prop
  | done {r : Rd} (h : r.bad = true ∨ isR l e r ⟨#[125]⟩ = true) : ManyR l e B r [] r
  | more {r : Rd} {x : β} {s : Rd} {xs : List β} {t : Rd} (h : r.bad = false) (h2 : isR l e r ⟨#[125]⟩ = false) (hb : B r x s) (ht : ManyR l e B s xs t) : ManyR l e B r (x :: xs) t
abbrev XRel (β : Type) := List Tok → Int → Rd → β → Rd → Prop
def ArgsR (l : List Tok) (e : Int) (r : Rd) (ns : List ByteArray) (s : Rd) : Prop :=
  if isR l e r ⟨#[92]⟩ = true then ∃ ms t, NamesR l e (kindR l e (onR r) 1) ms t ∧ ns = (kindT l e (onR r) 1).tx :: ms ∧ s = wantR l e t ⟨#[45, 62]⟩ else ns = [] ∧ s = r
abbrev BindR (E : XRel Exp) : XRel Bind := fun l e r b s => ∃ ns s3 x s4, ArgsR l e (wantR l e (kindR l e r 1) ⟨#[61]⟩) ns s3 ∧ E l e s3 x s4 ∧ b = .mk (kindT l e r 1).tx (kindT l e r 1).at_ ns x ∧ s = wantR l e s4 ⟨#[59]⟩
def HeadR (l : List Tok) (e : Int) (r : Rd) (k : Int) (nm : ByteArray) (nv : Int) (ns : List ByteArray) (s : Rd) : Prop :=
  if (tokR l e r).k = 2 then k = 1 ∧ nm = (tokR l e r).tx ∧ nv = 0 ∧ NamesR l e (onR r) ns s
  else if (tokR l e r).k = 4 then k = 2 ∧ nm = ⟨#[]⟩ ∧ nv = (tokR l e r).n ∧ ns = [] ∧ s = onR r
  else if (tokR l e r).k = 1 then k = 3 ∧ nm = (tokR l e r).tx ∧ nv = 0 ∧ ns = [] ∧ s = onR r
  else k = 0 ∧ nm = ⟨#[]⟩ ∧ nv = 0 ∧ ns = [] ∧ s = failR l e r 23
abbrev AltR (E : XRel Exp) : XRel Alt := fun l e r a s => ∃ k nm nv ns s1 x s4, HeadR l e r k nm nv ns s1 ∧ E l e (wantR l e s1 ⟨#[45, 62]⟩) x s4 ∧ a = .mk k (tokR l e r).at_ nm nv ns x ∧ s = wantR l e s4 ⟨#[59]⟩
abbrev LetR (E : XRel Exp) : XRel Exp := fun l e r x s => ∃ y sB ys s3 kx, BindR E l e (wantR l e (onR r) ⟨#[123]⟩) y sB ∧ ManyR l e (BindR E l e) sB ys s3 ∧ E l e (wantR l e (wantR l e s3 ⟨#[125]⟩) ⟨#[105, 110]⟩) kx s ∧ x = .mk 5 (tokR l e r).at_ ⟨#[]⟩ 0 [] (y :: ys) [kx] []
abbrev CaseR (E : XRel Exp) : XRel Exp := fun l e r x s => ∃ kx s1 y sB ys s3, E l e (onR r) kx s1 ∧ AltR E l e (wantR l e (wantR l e s1 ⟨#[111, 102]⟩) ⟨#[123]⟩) y sB ∧ ManyR l e (AltR E l e) sB ys s3 ∧ s = wantR l e s3 ⟨#[125]⟩ ∧ x = .mk 6 (tokR l e r).at_ ⟨#[]⟩ 0 [] [] [kx] (y :: ys)
def NoneR (l : List Tok) (e : Int) (r : Rd) (x : Exp) : Prop := x = .mk 0 (tokR l e r).at_ ⟨#[]⟩ 0 [] [] [] []
/-- An expression, by what is read one deeper. -/
def StepR (E : XRel Exp) : XRel Exp := fun l e r x s =>
  if r.bad = true then NoneR l e r x ∧ s = r
  else if (tokR l e r).k = 4 then x = .mk 4 (tokR l e r).at_ ⟨#[]⟩ (tokR l e r).n [] [] [] [] ∧ s = onR r
  else if (tokR l e r).k = 1 ∨ (tokR l e r).k = 2 ∨ (tokR l e r).k = 3 then ∃ ats, AtomsR l e (onR r) ats s ∧ x = .mk (tokR l e r).k (tokR l e r).at_ (tokR l e r).tx 0 ats [] [] []
  else if isR l e r ⟨#[108, 101, 116]⟩ = true then LetR E l e r x s
  else if isR l e r ⟨#[99, 97, 115, 101]⟩ = true then CaseR E l e r x s
  else if isR l e r ⟨#[40]⟩ = true then ∃ s1, E l e (onR r) x s1 ∧ s = wantR l e s1 ⟨#[41]⟩
  else NoneR l e r x ∧ s = failR l e r 23
def expRel : Nat → XRel Exp
  | 0 => fun l e r x s => NoneR l e r x ∧ s = failR l e r 24
  | n + 1 => StepR (expRel n)
inductive DatasR (l : List Tok) (e : Int) : Rd → List Dat → Rd → Prop
  | done {r : Rd} (h : isR l e r ⟨#[100, 97, 116, 97]⟩ = false) : DatasR l e r [] r
  | more {r : Rd} {ds : List Dat} {s : Rd} (h : isR l e r ⟨#[100, 97, 116, 97]⟩ = true)
      (t : DatasR l e (wantR l e (kindR l e (kindR l e (onR r) 2) 4) ⟨#[59]⟩) ds s) : DatasR l e r (⟨(kindT l e (onR r) 2).tx, (kindT l e (kindR l e (onR r) 2) 4).n, (kindT l e (onR r) 2).at_⟩ :: ds) s
inductive TopsR (l : List Tok) (e : Int) (B : Rd → Bind → Rd → Prop) : Rd → List Bind → Rd → Prop
  | done {r : Rd} (h : r.bad = true ∨ l.length ≤ r.at_) : TopsR l e B r [] r
  | more {r : Rd} {x : Bind} {s : Rd} {xs : List Bind} {t : Rd} (h : r.bad = false) (h2 : r.at_ < l.length) (hb : B r x s) (ht : TopsR l e B s xs t) : TopsR l e B r (x :: xs) t
/-- What a text is read as. -/
def ParseR (s : ByteArray) (ds : List Dat) (bs : List Bind) (a e : Int) : Prop :=
  if (scanAll s).2.2 = 0 then ∃ ds' r1 bs' r2, DatasR (scanAll s).1 s.size ⟨0, false, 0, 0⟩ ds' r1 ∧ TopsR (scanAll s).1 s.size (BindR (expRel 60) (scanAll s).1 s.size) r1 bs' r2 ∧
    (if r2.bad = true then ds = [] ∧ bs = [] ∧ a = r2.en ∧ e = r2.es else ds = ds' ∧ bs = bs' ∧ a = 0 ∧ e = 0)
  else ds = [] ∧ bs = [] ∧ a = (scanAll s).2.1 ∧ e = (scanAll s).2.2
end Go.Proofs.YtoepmdbicdoieaaDoor.X
