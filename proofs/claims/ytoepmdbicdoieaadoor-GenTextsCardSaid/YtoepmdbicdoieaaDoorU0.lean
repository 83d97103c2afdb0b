/- How a program is laid flat, as data. -/
import Derived.Test.YtoepmdbicdoieaaDoorVA
import Derived.Test.YtoepmdbicdoieaaDoorKB
namespace Go.Proofs.YtoepmdbicdoieaaDoor.U
open Go Go.Eng Go.Proofs Go.Proofs.YtoepmdbicdoieaaDoor.T Go.Proofs.YtoepmdbicdoieaaDoor.V Go.Proofs.YtoepmdbicdoieaaDoor.K
set_option linter.unusedSimpArgs false
set_option linter.unusedVariables false
/-- A closure that is laid; where a case goes on; an instruction; what is told of a form. -/
structure Mk where
  kind : Int
  info : Int
  n : Int
  frm : List Int
structure Arm where
  kind : Int
  con : Int
  n : Int
  to : Int
structure Ins where
  op : Int
  a : Int
  b : Int
  list : List Int
  keep : List Int
  makes : List Mk
  arms : List Arm
structure Inf where
  kind : Int
  arity : Int
  free : Int
  to : Int
abbrev Frm := List ByteArray × Exp
structure Sc where
  ins : List Ins
  infos : List Inf
  forms : List Frm
  needs : List (List ByteArray)
  big : Bool
/-- The last place of a name in a list; below 0: it is not there. -/
def findL : List ByteArray → ByteArray → Int
  | [], _ => -1
  | x :: l, s => if 0 ≤ findL l s then findL l s + 1 else if x = s then 0 else -1
/-- What names stand for beside the locals. -/
structure Env where
  ds : List Dat
  tops : List ByteArray
def conD : List Dat → ByteArray → Int
  | [], _ => 0
  | d :: l, s => if d.name = s then 0 else if l.any (fun x => decide (x.name = s)) = true then conD l s + 1 else 0
def place (C : Env) (l : List ByteArray) (s : ByteArray) : Int := if 0 ≤ findL l s then findL l s else -1 - findL C.tops s
def here (l : List ByteArray) (names : List ByteArray) : List ByteArray := names.filter fun s => decide (0 ≤ findL l s)
def nums : List (ByteArray × Int) → List Mk
  | [] => []
  | a :: l => if a.1 = ⟨#[]⟩ then ⟨2, 0, a.2, []⟩ :: nums l else nums l
def atomsP (C : Env) (l : List ByteArray) : List (ByteArray × Int) → Int → List Int
  | [], _ => []
  | a :: r, k => if a.1 = ⟨#[]⟩ then k :: atomsP C l r (k + 1) else place C l a.1 :: atomsP C l r k
def blanks (n : Nat) : List ByteArray := List.replicate n ⟨#[]⟩
def putS (s : Sc) (i : Ins) : Sc := { s with ins := s.ins ++ [i], big := s.big || decide (1000 < i.b + i.makes.length) }
def infoS (s : Sc) (f : Frm) (need : List ByteArray) : Sc :=
  { s with infos := s.infos ++ [⟨if f.1.length = 0 then 6 else 3, f.1.length, need.length, 0⟩], forms := s.forms ++ [f], needs := s.needs ++ [need], big := s.big || decide (255 < need.length) }
def setA (s : Sc) (i : Nat) (a : Int) : Sc := { s with ins := s.ins.modify i fun x => { x with a := a } }
def setArms (s : Sc) (i : Nat) (l : List Arm) : Sc := { s with ins := s.ins.modify i fun x => { x with arms := l } }
def setTo (s : Sc) (i : Nat) (a : Int) : Sc := { s with infos := s.infos.modify i fun x => { x with to := a } }
/-- What is laid ahead of a group's closures: the numbers of its constructors. -/
def preM : List Bind → List Mk
  | [] => []
  | b :: l => if classOf b.args b.body = 1 then nums b.body.atoms ++ preM l else preM l
def freeB (b : Bind) : List ByteArray := lessL (within b.body) b.args
structure Grp where
  makes : List Mk
  frm : Int
  s : Sc
def stepM (C : Env) (inn : List ByteArray) (t : Grp) (b : Bind) : Grp :=
  if classOf b.args b.body = 1 then ⟨t.makes ++ [⟨1, conD C.ds b.body.name, 0, atomsP C inn b.body.atoms t.frm⟩], t.frm + (nums b.body.atoms).length, t.s⟩
  else if classOf b.args b.body = 2 then ⟨t.makes ++ [⟨2, 0, b.body.n, []⟩], t.frm, t.s⟩
  else if classOf b.args b.body = 7 then ⟨t.makes ++ [⟨7, conD C.ds (fieldOf b.args b.body).1, (fieldOf b.args b.body).2.1, [place C inn (fieldOf b.args b.body).2.2.1]⟩], t.frm, t.s⟩
  else ⟨t.makes ++ [⟨classOf b.args b.body, t.s.infos.length, 0, (here inn (freeB b)).map (place C inn)⟩], t.frm, infoS t.s (b.args, b.body) (here inn (freeB b))⟩
def letIn (bs : List Bind) (l : List ByteArray) : List ByteArray := l ++ blanks (preM bs).length ++ bs.map Bind.name
def letM (C : Env) (bs : List Bind) (l : List ByteArray) (s : Sc) : Grp := bs.foldl (stepM C (letIn bs l)) ⟨preM bs, l.length, s⟩
def ownA (k : Int) (s : ByteArray) (vs : List ByteArray) : List ByteArray := if k = 1 then vs else if k = 3 then [s] else []
def keep1 (own : List ByteArray) (keep : List ByteArray) (s : ByteArray) : List ByteArray := if 0 ≤ findL own s ∨ 0 ≤ findL keep s then keep else keep ++ [s]
def keepA (l : List ByteArray) (keep : List ByteArray) (a : Alt) : List ByteArray := (here l (within a.body)).foldl (keep1 (ownA a.kind a.name a.vars)) keep
def keepL (l : List ByteArray) (ls : List Alt) : List ByteArray := ls.foldl (keepA l) []
def armIn (keep : List ByteArray) (k : Int) (s : ByteArray) (vs : List ByteArray) : List ByteArray := if k = 1 then keep ++ [⟨#[]⟩] ++ vs else if k = 3 then keep ++ [s] else keep ++ [⟨#[]⟩]
structure Ars where
  arms : List Arm
  s : Sc
def retS (s : Sc) (a b : Int) : Sc := putS s ⟨3, a, b, [], [], [], []⟩
def insL (b : Int) (ms : List Mk) : Ins := ⟨1, 0, b, [], [], ms, []⟩
/-- The numbers of atoms, if there are any. -/
def intsS (s : Sc) (ats : List (ByteArray × Int)) (b : Int) : Sc := if (nums ats).length = 0 then s else putS s (insL b (nums ats))
def conM (C : Env) (nm : ByteArray) (ats : List (ByteArray × Int)) (l : List ByteArray) : List Mk := nums ats ++ [⟨1, conD C.ds nm, 0, atomsP C l ats l.length⟩]
def caseS (C : Env) (es : List Exp) (ls : List Alt) (l : List ByteArray) (s : Sc) : Sc := putS s ⟨4, 0, l.length, (here l (withinKid es)).map (place C l), (keepL l ls).map (place C l), [], []⟩
def armsS (s : Sc) (i : Nat) (keep : List ByteArray) : Sc := putS (setA s i s.ins.length) ⟨5, 0, keep.length + 1, [], [], [], []⟩
mutual
def layE (C : Env) : Exp → List ByteArray → Sc → Sc
  | .mk k a nm n ats bs es ls, l, s =>
    if s.big = true then s
    else if k = 4 then retS (putS s (insL l.length [⟨2, 0, n, []⟩])) l.length (l.length + 1)
    else if k = 2 then retS (putS s (insL l.length (conM C nm ats l))) (l.length + (conM C nm ats l).length - 1) (l.length + (conM C nm ats l).length)
    else if k = 1 then putS (intsS s ats l.length) ⟨2, place C l nm, l.length + (nums ats).length, atomsP C l ats l.length, [], [], []⟩
    else if k = 3 then putS (intsS s ats l.length) ⟨6, findP nm, l.length + (nums ats).length, atomsP C l ats l.length, [], [], []⟩
    else if k = 5 then layKid C es (letIn bs l) (putS (letM C bs l s).s (insL l.length (letM C bs l s).makes))
    else if k = 6 then
      let s2 := layKid C es (here l (withinKid es)) (caseS C es ls l s)
      let t := layAlts C (keepL l ls) ls ⟨[], armsS s2 s.ins.length (keepL l ls)⟩
      setArms t.s s2.ins.length t.arms
    else s
def layKid (C : Env) : List Exp → List ByteArray → Sc → Sc
  | [], _, s => s
  | e :: _, l, s => layE C e l s
def layAlt (C : Env) : List ByteArray → Alt → Ars → Ars
  | keep, .mk k a nm n vs e, t => ⟨t.arms ++ [⟨k, if k = 1 then conD C.ds nm else 0, if k = 2 then n else 0, t.s.ins.length⟩], layE C e (armIn keep k nm vs) t.s⟩
def layAlts (C : Env) : List ByteArray → List Alt → Ars → Ars
  | _, [], t => t
  | keep, a :: ls, t => layAlts C keep ls (layAlt C keep a t)
end
/-- What is laid next. -/
def stepQ (C : Env) (i : Nat) (f : Frm) (need : List ByteArray) (s : Sc) : Sc := layE C f.2 (f.1 ++ need) (setTo s i s.ins.length)
/-- All that waits is laid, from the i-th on. -/
inductive RunQ (C : Env) : Nat → Sc → Sc → Prop
  | stop {i : Nat} {s : Sc} : ¬ (i < s.forms.length ∧ s.big = false) → RunQ C i s s
  | step {i : Nat} {s s' : Sc} (f : Frm) (need : List ByteArray) : s.big = false → s.forms[i]? = some f → s.needs[i]? = some need → RunQ C (i + 1) (stepQ C i f need s) s' → RunQ C i s s'
def begins (bs : List Bind) : Sc := bs.foldl (fun s b => infoS s (b.args, b.body) []) ⟨[], [], [], [], false⟩
structure Cd where
  cons : List (ByteArray × Int)
  globals : List (ByteArray × Int)
  infos : List Inf
  ins : List Ins
def globs : List Bind → Nat → List (ByteArray × Int)
  | [], _ => []
  | b :: l, i => (b.name, (i : Int)) :: globs l (i + 1)
abbrev env (ds : List Dat) (bs : List Bind) : Env := ⟨ds, bs.map Bind.name⟩
def codeOf (ds : List Dat) (bs : List Bind) (s : Sc) : Cd := ⟨ds.map fun d => (d.name, d.arity), globs bs 0, s.infos, s.ins⟩
/-- A program's code, or what is wrong with it. -/
def Compiles (ds : List Dat) (bs : List Bind) (c : Cd) (at_ e : Int) : Prop :=
  if (checkC ds bs).e = 0 then ∃ s, RunQ (env ds bs) 0 (begins bs) s ∧ at_ = 0 ∧ (if s.big = true then c = ⟨[], [], [], []⟩ ∧ e = 3 else c = codeOf ds bs s ∧ e = 0)
  else c = ⟨[], [], [], []⟩ ∧ at_ = (checkC ds bs).at_ ∧ e = (checkC ds bs).e
end Go.Proofs.YtoepmdbicdoieaaDoor.U
