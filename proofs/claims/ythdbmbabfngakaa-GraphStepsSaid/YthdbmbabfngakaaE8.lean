/- The engine, part 8: the walk that goes by itself, as far as it can; what is left of it is what is to be shown. -/
import Derived.Test.YthdbmbabfngakaaE7
namespace Go.Eng
open Go Go.RowKit

section
variable {P : Program} {n : Nat} {C : Cx} {k : List KItem} {S : St} {all : Array Oper} {o : Oper} {l : List Oper} {st : Bool}
theorem Eff.callM {κ : St → Prop} {f : FuncId} {fo : Operand} {args : Array Operand} {tys : Array TypeId} {first cap : Array Value} {y : AV} {vs : List Value} {Q : Value → PH → List PH → Prop} {S1 : St} {Rc Rf : List PH} {B : Base} (ho : o.op = .call ⟨.value fo, args, tys⟩)
    (hf : evo S.L fo = some y) (hy : y.val = .func (.func f) first cap) (ha : evl S.L args.toList = some vs) (hs1 : Shift S S1) (hc : Fn P f (first.toList ++ vs ++ cap.toList) S1.F Rc Q) (hp : S1.R.Perm (Rc ++ Rf))
    (next : ∀ v F' R', S1.F.le F' → Q v F' R' → ∃ S2, S2.L = setk S.L o.dst (.v v) ∧ Shift ⟨[], S1.M, F', R' ++ Rf, 0⟩ S2 ∧ (st = true → Stab S S2) ∧ κ S2) : Eff P n B st o S κ := by
  obtain ⟨⟨fn, hfn, hbody, hname⟩, hc⟩ := hc
  intro a w hka hkw K Q' hK
  obtain ⟨dst, op, type, pos, after, guard⟩ := o
  subst ho
  have e : execOp a.eval ⟨dst, .call ⟨.value fo, args, tys⟩, type, pos, after, guard⟩ = (do let d ← resolve a.eval ⟨.value fo, args, tys⟩ type; invoke d.target d.args) := rfl
  have hargs := hka.evals ha
  have hb : fn.body.isNone = false := by cases hh : fn.body <;> simp_all
  have e2 : (execOp a.eval ⟨dst, .call ⟨.value fo, args, tys⟩, type, pos, after, guard⟩).run P w = .ok (.enter f (first.toList ++ vs ++ cap.toList).toArray) w := by
    rw [e]
    have hm : (args.map a.eval).toList = vs := by rw [Array.toList_map]; exact hargs
    have ht : first ++ args.map a.eval ++ cap = (first.toList ++ vs ++ cap.toList).toArray := by
      apply Array.ext'
      rw [Array.toList_append, Array.toList_append, hm]
    simp only [resolve, hka.eval hf, hy, Deferred.ofValue, Sem.run_bind, Sem.run_pure, Result.andThen_ok, invoke, callFunc]
    simp only [program, Sem.run, Result.andThen_ok, hfn, hname, hb, Bool.false_eq_true, if_false, ht]
    rfl
  unfold Oper.wp
  rw [e2, Oper.upon_enter]
  have hw1 := hs1 _ _ hkw
  refine (hc w (hw1.in0 hp)).mono ?_
  rintro _ w' ⟨v, F', R', rfl, hq, hs⟩
  obtain ⟨S2, h1, h2, h3, h4⟩ := next v F' R' hs.f0 hq
  exact hK (.v v) w' S2 h1 (h2 _ _ (hw1.behind hp hs _ _)) (fun hst _ => h3 hst) h4
/-- A call: some contract fits, and behind it all goes well. -/
def CallV (P : Program) (st : Bool) (f : FuncId) (args : List Value) (d : Option Tmp) (κ : St → Prop) (S : St) : Prop :=
  ∃ Q S1 Rc Rf, Shift S S1 ∧ Fn P f args S1.F Rc Q ∧ S1.R.Perm (Rc ++ Rf) ∧ ∀ v F' R', S1.F.le F' → Q v F' R' → ∃ S2, S2.L = setk S.L d (.v v) ∧ Shift ⟨[], S1.M, F', R' ++ Rf, 0⟩ S2 ∧ (st = true → Stab S S2) ∧ κ S2
/-- The same, where nothing but what is lent turns. -/
theorem CallV.mk {κ : St → Prop} {f : FuncId} {args : List Value} {d : Option Tmp} (h : ∃ Q Rc Rf, Fn P f args S.F Rc Q ∧ S.R.Perm (Rc ++ Rf) ∧ ∀ v F' R', S.F.le F' → Q v F' R' → κ ⟨setk S.L d (.v v), S.M, F', R' ++ Rf, S.nx⟩) : CallV P st f args d κ S := by
  obtain ⟨Q, Rc, Rf, h1, h2, h3⟩ := h
  exact ⟨Q, S, Rc, Rf, fun _ _ h => h, h1, h2, fun v F' R' k1 k2 => ⟨_, rfl, fun _ _ h => h.setL _ _, fun _ => Stab.grow _ _ _ _ k1, h3 v F' R' k1 k2⟩⟩
theorem CallV.of {κ : St → Prop} {f : FuncId} {args : List Value} {d : Option Tmp} {Q : Value → PH → List PH → Prop} (hc : Fn P f args S.F S.R Q) (next : ∀ v F' R', S.F.le F' → Q v F' R' → κ ⟨setk S.L d (.v v), S.M, F', R', S.nx⟩) : CallV P st f args d κ S :=
  .mk ⟨Q, S.R, [], hc, by simp, fun v F' R' h1 h2 => by rw [List.append_nil]; exact next v F' R' h1 h2⟩
/-- A contract to which nothing is lent. -/
def PFn (P : Program) (f : FuncId) (args : List Value) (F : PH) (Q : Value → PH → Prop) : Prop := Fn P f args F [] (fun v F' R' => R' = [] ∧ Q v F')
theorem CallV.pure {κ : St → Prop} {f : FuncId} {args : List Value} {d : Option Tmp} {Q : Value → PH → Prop} (hc : PFn P f args S.F Q) (next : ∀ v F', S.F.le F' → Q v F' → κ ⟨setk S.L d (.v v), S.M, F', S.R, S.nx⟩) : CallV P st f args d κ S :=
  .mk ⟨_, [], S.R, hc, by simp, fun v F' R' h1 h2 => by obtain ⟨rfl, h2⟩ := h2; exact next v F' h1 h2⟩

/-! ### Guards -/
/-- What a guard asks of a value: one that is passed over is nobody's. -/
def gb (want : Bool) : Value → Option Bool
  | .bool b => some b
  | .tuple _ => some (!want)
  | _ => none
theorem gb_bool (want b : Bool) : gb want (.bool b) = some b := rfl
theorem gb_undef (want : Bool) : gb want undef = some (!want) := rfl
def gval (all : Array Oper) (L : KL) (j : Nat) (want : Bool) : Option Bool :=
  match all[j]? with
  | some oj => match oj.dst with
    | some d => match look L d with
      | some (.v x) => gb want x
      | _ => none
    | none => none
  | none => none
theorem yielded_at {tmps : Array Value} {j : Nat} {oj : Oper} {d : Nat} {x : Value} {want b : Bool} (hj : all[j]? = some oj) (hd : oj.dst = some d) (hx : tmps[d]? = some x) (hb : gb want x = some b) : (yielded all tmps j == some want) = (b == want) := by
  unfold yielded
  simp only [hj, hd, Option.bind_some, hx]
  cases x <;> simp [gb] at hb
  · subst hb; simp
  · subst hb; cases b <;> rfl
theorem gval_run {a : Act} (ha : Kn n S.L a) {j : Nat} {want b : Bool} (h : gval all S.L j want = some b) : (yielded all a.tmps j == some want) = (b == want) := by
  unfold gval at h
  split at h
  · rename_i oj hj
    split at h
    · rename_i d hd
      split at h
      · rename_i x hl
        obtain ⟨h1, h2⟩ := ha.2.2 _ _ hl
        refine yielded_at hj hd ?_ h
        rw [Array.getElem?_eq_getElem (by rw [ha.2.1]; exact h1)]
        have : a.tmps.getD d undef = x := h2
        simp only [Array.getD, ha.2.1, h1] at this
        simpa using this
      · cases h
    · cases h
  · cases h
theorem VC.guard {j : Nat} {want b : Bool} (hg : o.guard = some (j, want)) (hd : dok n o.dst = true) (hv : gval all S.L j want = some b)
    (h1 : (b == want) = true → VC P n C (.ops all ({ o with guard := none } :: l) :: k) S)
    (h2 : (b == want) = false → VC P n C (.ops all l :: k) { S with L := setk S.L o.dst (.v undef) }) : VC P n C (.ops all (o :: l) :: k) S := by
  intro a w ha hw
  have hy := gval_run ha hv
  show wpList P all _ (o :: l) a w
  unfold wpList
  by_cases e : (b == want) = true
  · have hwn : Region.wanted o (yielded all a.tmps) = true := by simpa [Region.wanted, hg, hy] using e
    rw [if_pos hwn]
    have h := h1 e a w ha hw
    have h : wpList P all (mkq C.ret (semx P n C k).1 (semx P n C k).2) ({ o with guard := none } :: l) a w := h
    unfold wpList at h
    rw [if_pos (by simp [Region.wanted])] at h
    obtain ⟨dst, op, type, pos, after, guard⟩ := o
    exact h
  · have hwn : ¬ Region.wanted o (yielded all a.tmps) = true := by simpa [Region.wanted, hg, hy] using e
    rw [if_neg hwn]
    exact h2 (by simpa using e) _ _ (ha.put rfl (dok_lt hd)) (hw.setL _ _)
end

/-! ### The walk -/
def cnd (b : Bool) (gx gy : St → Prop) (S : St) : Prop := (b = true → gx S) ∧ (b = false → gy S)
theorem cnd_true (gx gy : St → Prop) (S : St) : cnd true gx gy S = gx S := by simp [cnd]
theorem cnd_false (gx gy : St → Prop) (S : St) : cnd false gx gy S = gy S := by simp [cnd]
theorem cnd_mk {b : Bool} {gx gy : St → Prop} {S : St} (h1 : b = true → gx S) (h2 : b = false → gy S) : cnd b gx gy S := ⟨h1, h2⟩
def goV (κ : St → Prop) (d : Option Tmp) (S : St) : Option AV → Prop
  | some y => κ { S with L := setk S.L d y }
  | none => False
/-- An operation that is passed over. -/
def skp (κ : St → Prop) (d : Option Tmp) (S : St) : Prop := κ { S with L := setk S.L d (.v undef) }
/-- One operation (its guard aside), by its kind. -/
def opn (P : Program) (n : Nat) (B : Base) (st : Bool) (κ : St → Prop) (o : Oper) (S : St) : Prop :=
  match o.op with
  | .alloc t => match ty P t with
    | some D => ∀ b, κ ⟨setk S.L o.dst (.o S.nx b 0), S.M ++ [⟨S.nx, b, t, D.zero.cells.toList⟩], S.F, S.R, S.nx + 1⟩
    | none => False
  | .box t x => match evo S.L x with
    | some y => ∀ b, κ ⟨setk S.L o.dst (.o S.nx b 0), S.M ++ [⟨S.nx, b, t, y.val.cells.toList⟩], S.F, S.R, S.nx + 1⟩
    | none => False
  | .store t p v => match evo S.L p, evo S.L v with
    | some x, some y => o.dst = none ∧ (match stM P S t x y with
      | some M => κ ⟨S.L, M, S.F, S.R, S.nx⟩
      | none => False)
    | _, _ => False
  | .build t parts => goV κ o.dst S (bldv P S t parts)
  | .buildSlice t len parts => match bslv P S t len parts with
    | some (e, cs) => if len = 0 then ∀ b, κ ⟨setk S.L o.dst (.v (.slice (some ⟨b, 0, none⟩) 0 0)), S.M, S.F, PH.one b (.cells cs.toArray e (0, 0)) :: S.R, S.nx⟩
      else ∀ b F', S.F.le F' → F' b = some (.cells cs.toArray e (0, 0)) → κ ⟨setk S.L o.dst (.v (.slice (some ⟨b, 0, none⟩) len len)), S.M, F', S.R, S.nx⟩
    | none => False
  | .call ⟨.value fo, args, _⟩ => match evo S.L fo, evl S.L args.toList with
    | some (.v (.func (.func f) first cap)), some vs => CallV P st f (first.toList ++ vs ++ cap.toList) o.dst κ S
    | _, _ => False
  | .call ⟨.builtin .len, args, tys⟩ => goV κ o.dst S (qv P S (.call ⟨.builtin .len, args, tys⟩))
  | .move x => goV κ o.dst S (evo S.L x)
  | .assign x => goV κ o.dst S (evo S.L x)
  | .pick c a b => goV κ o.dst S (qv P S (.pick c a b))
  | .binOp op t x y u => goV κ o.dst S (qv P S (.binOp op t x y u))
  | .unOp op t x => goV κ o.dst S (qv P S (.unOp op t x))
  | .convert s d x => goV κ o.dst S (qv P S (.convert s d x))
  | .makeInterface t x => goV κ o.dst S (qv P S (.makeInterface t x))
  | .makeFunc f a b => goV κ o.dst S (qv P S (.makeFunc f a b))
  | .extract x i => goV κ o.dst S (qv P S (.extract x i))
  | .field t x f => goV κ o.dst S (qv P S (.field t x f))
  | .fieldAddr t x f => goV κ o.dst S (qv P S (.fieldAddr t x f))
  | .nilCheck x => goV κ o.dst S (qv P S (.nilCheck x))
  | .indexAddr t x i => goV κ o.dst S (qv P S (.indexAddr t x i))
  | .index t x i => goV κ o.dst S (qv P S (.index t x i))
  | .load t x => goV κ o.dst S (qv P S (.load t x))
  | .slice t x lo hi none => goV κ o.dst S (qv P S (.slice t x lo hi none))
  | _ => Eff P n B st o S κ
section
variable {P : Program} {n : Nat} {C : Cx} {k : List KItem} {S : St} {all : Array Oper} {o : Oper} {l : List Oper} {B : Base} {st : Bool}
theorem goV_sound {κ : St → Prop} (h : goV κ o.dst S (qv P S o.op)) : Eff P n B st o S κ := by
  cases e : qv P S o.op with
  | none => rw [e] at h; exact h.elim
  | some y => rw [e] at h; exact Eff.quiet e h
theorem opn_sound {κ : St → Prop} (h : opn P n B st κ o S) : Eff P n B st o S κ := by
  obtain ⟨dst, op, type, pos, after, guard⟩ := o
  cases op with
  | alloc t =>
    simp only [opn] at h
    split at h
    · rename_i ht; exact Eff.alloc rfl ht h
    · exact h.elim
  | box t x =>
    simp only [opn] at h
    split at h
    · rename_i ht; exact Eff.box rfl ht h
    · exact h.elim
  | store t p v =>
    simp only [opn] at h
    split at h
    · rename_i h1 h2
      obtain ⟨hd, h⟩ := h
      split at h
      · rename_i hs; exact Eff.store hd rfl h1 h2 hs h
      · exact h.elim
    · exact h.elim
  | build t parts =>
    simp only [opn] at h
    cases e : bldv P S t parts with
    | none => rw [e] at h; exact h.elim
    | some y => rw [e] at h; exact Eff.build rfl e h
  | buildSlice t len parts =>
    simp only [opn] at h
    split at h
    · rename_i hb
      split at h
      · rename_i h0; subst h0; exact Eff.bsl0 rfl hb h
      · exact Eff.bsl rfl hb h
    · exact h.elim
  | call c =>
    obtain ⟨callee, args, tys⟩ := c
    cases callee with
    | value fo =>
      simp only [opn] at h
      split at h
      · rename_i h1 h2
        obtain ⟨Q, S1, Rc, Rf, g0, g1, g2, g3⟩ := h
        exact Eff.callM rfl h1 rfl h2 g0 g1 g2 g3
      · exact h.elim
    | builtin b => cases b <;> first | exact goV_sound h | exact h
    | invoke r m => exact h
  | slice t x lo hi mx => cases mx <;> first | exact goV_sound h | exact h
  | _ => first | exact goV_sound h | exact h
/-- A region's operations, one behind the other, in the text's order. -/
def seqn (P : Program) (n : Nat) (B : Base) (κ : St → Prop) (all : Array Oper) : List Oper → St → Prop
  | [], S => κ S
  | o :: l, S => match o.guard with
    | none => dok n o.dst = true ∧ opn P n B false (seqn P n B κ all l) o S
    | some (j, want) => match gval all S.L j want with
      | some b => dok n o.dst = true ∧ cnd (b == want) (opn P n B false (seqn P n B κ all l) ⟨o.dst, o.op, o.type, o.pos, o.after, none⟩) (skp (seqn P n B κ all l) o.dst) S
      | none => False
theorem seqn_sound {κ : St → Prop} (hκ : ∀ S, κ S → VC P n C k S) : ∀ {l : List Oper} {S : St}, seqn P n C.B κ all l S → VC P n C (.ops all l :: k) S
  | [], _, h => VC.opsnil (hκ _ h)
  | o :: l, S, h => by
    simp only [seqn] at h
    split at h
    · rename_i hg; exact VC.eff hg h.1 ((opn_sound h.2).mono fun S h => seqn_sound hκ h)
    · rename_i hg
      split at h
      · rename_i hb
        refine VC.guard hg h.1 hb (fun e => ?_) (fun e => seqn_sound hκ (h.2.2 e))
        exact VC.eff rfl h.1 ((opn_sound (h.2.1 e)).mono fun S h => seqn_sound hκ h)
      · exact h.elim
def vcn (P : Program) (n : Nat) (B : Base) (ts : List ResultVar) (Q : Value → PH → List PH → Prop) : Nat → List KItem → St → Prop
  | 0, k, S => VC P n (retC P n B ts Q) k S
  | _ + 1, [], S => RetOk P ts Q S
  | f + 1, .code c :: k, S => match c with
    | .skip => vcn P n B ts Q f k S
    | .seq x y => vcn P n B ts Q f (.code x :: .code y :: k) S
    | .block id c => vcn P n B ts Q f (.code c :: .blk id :: k) S
    | .ret => RetOk P ts Q S
    | .region _ ops false => seqn P n B (vcn P n B ts Q f k) ops ops.toList S
    | .cond c x y => match evo S.L c with
      | some (.v (.bool b)) => cnd b (vcn P n B ts Q f (.code x :: k)) (vcn P n B ts Q f (.code y :: k)) S
      | _ => False
    | .exit id => match dropTo id k with
      | some k' => vcn P n B ts Q f k' S
      | none => False
    | c => VC P n (retC P n B ts Q) (.code c :: k) S
  | f + 1, .blk _ :: k, S => vcn P n B ts Q f k S
  | _ + 1, .done G :: _, S => G S
  | _ + 1, .ops all l :: k, S => VC P n (retC P n B ts Q) (.ops all l :: k) S
theorem VC.go {B : Base} {ts : List ResultVar} {Q : Value → PH → List PH → Prop} : ∀ (f : Nat) {k : List KItem} {S : St}, vcn P n B ts Q f k S → VC P n (retC P n B ts Q) k S
  | 0, _, _, h => h
  | _ + 1, [], _, h => VC.nilok h
  | f + 1, .blk _ :: k, _, h => VC.blk (VC.go f (k := k) h)
  | _ + 1, .done _ :: _, _, h => VC.done h
  | _ + 1, .ops _ _ :: _, _, h => h
  | f + 1, .code c :: k, S, h => by
    simp only [vcn] at h
    split at h
    · exact VC.skip (VC.go f h)
    · exact VC.seq (VC.go f h)
    · exact VC.block (VC.go f h)
    · exact VC.retok h
    · exact VC.region (seqn_sound (C := retC P n B ts Q) (fun S h => VC.go f h) h)
    · split at h
      · rename_i hc
        intro a w ha hw
        have e := ha.eval hc
        rename_i b
        cases b
        · exact wp_cond_false e (VC.go f (h.2 rfl) a w ha hw)
        · exact wp_cond_true e (VC.go f (h.1 rfl) a w ha hw)
      · exact h.elim
    · split at h
      · rename_i hk; exact VC.exit hk (VC.go f h)
      · exact h.elim
    · exact h
theorem RetOk.p {ts : List ResultVar} {vs : List Value} {Q : Value → PH → Prop} {S : St} (h : rvals P S ts = some vs) (hq : Q (rval vs) S.F) : RetOk P ts (fun v F' R' => R' = [] ∧ Q v F') S := ⟨vs, [], h, .sub (List.nil_sublist _), rfl, hq⟩
end
/-! The walk's equations, with what is left kept shut. -/
section
variable (P : Program) (n : Nat) (B : Base) (ts : List ResultVar) (Q : Value → PH → List PH → Prop) (κ : St → Prop) (all : Array Oper) (o : Oper) (l : List Oper) (S : St) (f : Nat) (k : List KItem)
theorem seqn_nil : seqn P n B κ all [] S = κ S := rfl
theorem seqn_cons (dst : Option Tmp) (op : Op) (type : TypeId) (pos : String) (after : Array Edge) : seqn P n B κ all (⟨dst, op, type, pos, after, none⟩ :: l) S = (dok n dst = true ∧ opn P n B false (seqn P n B κ all l) ⟨dst, op, type, pos, after, none⟩ S) := rfl
theorem seqn_guard (dst : Option Tmp) (op : Op) (type : TypeId) (pos : String) (after : Array Edge) (j : Nat) (want : Bool) : seqn P n B κ all (⟨dst, op, type, pos, after, some (j, want)⟩ :: l) S =
    (match gval all S.L j want with
      | some b => dok n dst = true ∧ cnd (b == want) (opn P n B false (seqn P n B κ all l) ⟨dst, op, type, pos, after, none⟩) (skp (seqn P n B κ all l) dst) S
      | none => False) := rfl
theorem vcn_zero : vcn P n B ts Q 0 k S = VC P n (retC P n B ts Q) k S := rfl
theorem vcn_nil : vcn P n B ts Q (f + 1) [] S = RetOk P ts Q S := rfl
theorem vcn_skip : vcn P n B ts Q (f + 1) (.code .skip :: k) S = vcn P n B ts Q f k S := rfl
theorem vcn_seq (x y : Code) : vcn P n B ts Q (f + 1) (.code (.seq x y) :: k) S = vcn P n B ts Q f (.code x :: .code y :: k) S := rfl
theorem vcn_block (id : Nat) (c : Code) : vcn P n B ts Q (f + 1) (.code (.block id c) :: k) S = vcn P n B ts Q f (.code c :: .blk id :: k) S := rfl
theorem vcn_ret : vcn P n B ts Q (f + 1) (.code .ret :: k) S = RetOk P ts Q S := rfl
theorem vcn_region (id : Nat) (ops : List Oper) : vcn P n B ts Q (f + 1) (.code (.region id ops.toArray false) :: k) S = seqn P n B (vcn P n B ts Q f k) ops.toArray ops S := rfl
theorem vcn_draw (id : Nat) (ops : Array Oper) : vcn P n B ts Q (f + 1) (.code (.region id ops true) :: k) S = VC P n (retC P n B ts Q) (.code (.region id ops true) :: k) S := rfl
theorem vcn_cond (c : Operand) (x y : Code) : vcn P n B ts Q (f + 1) (.code (.cond c x y) :: k) S = (match evo S.L c with
      | some (.v (.bool b)) => cnd b (vcn P n B ts Q f (.code x :: k)) (vcn P n B ts Q f (.code y :: k)) S
      | _ => False) := rfl
theorem vcn_exit (id : Nat) : vcn P n B ts Q (f + 1) (.code (.exit id) :: k) S = (match dropTo id k with
      | some k' => vcn P n B ts Q f k' S
      | none => False) := rfl
theorem vcn_loop (c : Code) : vcn P n B ts Q (f + 1) (.code (.loop c) :: k) S = VC P n (retC P n B ts Q) (.code (.loop c) :: k) S := rfl
theorem vcn_blk (id : Nat) : vcn P n B ts Q (f + 1) (.blk id :: k) S = vcn P n B ts Q f k S := rfl
theorem vcn_done (G : St → Prop) : vcn P n B ts Q (f + 1) (.done G :: k) S = G S := rfl
end
attribute [push_cast] look rmk setk evo evl ownF rd idx cutb ldv qv intv strv eqb binv isAggD vcs wr fillS partsv bldv bslv updM stI ownB stM dok rval initL gval gb_bool gb_undef cnd_true cnd_false goV skp opn dropTo seqn_nil seqn_cons seqn_guard vcn_zero vcn_nil vcn_skip vcn_seq vcn_block vcn_ret vcn_region vcn_draw vcn_cond vcn_exit vcn_loop vcn_blk vcn_done
  AV.val_v AV.val_o AV.val_s List.range_zero Nat.zero_mod List.getD_cons_zero List.getD_cons_succ Nat.zero_add Nat.add_zero List.toList_toArray Option.isSome_some Option.isSome_none List.cons_append List.nil_append List.append_nil List.getElem?_cons_zero List.getElem?_cons_succ List.getElem?_nil Option.some.injEq
  if_true if_false true_and and_true decide_eq_true_eq List.take_succ_cons List.take_zero List.drop_succ_cons List.drop_zero List.drop_nil List.take_nil List.length_cons List.length_nil List.set_cons_zero List.set_cons_succ List.all_cons List.all_nil Bool.and_true Value.oneCell' Value.cells List.range_succ List.map_cons List.map_nil List.getElem?_toArray Int.toNat_natCast Nat.mul_one Int.natCast_nonneg Int.ofNat_lt Int.ofNat_le Bool.not_eq_true' decide_eq_false_iff_not beq_iff_eq Bool.not_true Bool.not_false bne_iff_ne eq_self List.all_eq_true decide_true decide_false beq_self_eq_true beq_true beq_false Bool.true_beq Bool.false_beq gt_iff_lt ge_iff_le cond_true cond_false Bool.not_eq_eq_eq_not
end Go.Eng
