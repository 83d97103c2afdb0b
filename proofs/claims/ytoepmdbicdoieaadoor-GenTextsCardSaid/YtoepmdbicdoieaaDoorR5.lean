/- What is read of tokens does not hang on their places. -/
import Derived.Test.YtoepmdbicdoieaaDoorR1
namespace Go.Proofs.YtoepmdbicdoieaaDoor.X
open Go Go.Eng Go.Proofs Go.Proofs.YtoepmdbicdoieaaDoor.T Go.Proofs.YtoepmdbicdoieaaDoor.K
set_option linter.unusedSimpArgs false
set_option linter.unusedVariables false
mutual
def erE : Exp → Exp
  | .mk k a s n ats bs es ls => .mk k 0 s n ats (erBs bs) (erEs es) (erLs ls)
def erB : Bind → Bind
  | .mk s a l e => .mk s 0 l (erE e)
def erL : Alt → Alt
  | .mk k a s n l e => .mk k 0 s n l (erE e)
def erEs : List Exp → List Exp
  | [] => []
  | e :: l => erE e :: erEs l
def erBs : List Bind → List Bind
  | [] => []
  | e :: l => erB e :: erBs l
def erLs : List Alt → List Alt
  | [] => []
  | e :: l => erL e :: erLs l
end
theorem erEs_map : ∀ l, erEs l = l.map erE
  | [] => rfl
  | e :: l => by simp [erEs, erEs_map l]
theorem erBs_map : ∀ l, erBs l = l.map erB
  | [] => rfl
  | e :: l => by simp [erBs, erBs_map l]
theorem erLs_map : ∀ l, erLs l = l.map erL
  | [] => rfl
  | e :: l => by simp [erLs, erLs_map l]
def erD (d : Dat) : Dat := ⟨d.name, d.arity, 0⟩
def erT (t : Tok) : Tok := ⟨t.k, t.tx, t.n, 0⟩
structure RS (r r' : Rd) : Prop where
  at_ : r.at_ = r'.at_
  bad : r.bad = r'.bad
  es : r.es = r'.es
section
variable {l l' : List Tok} {e e' : Int} {r r' s s' : Rd}
theorem tok_er (hl : l.map erT = l'.map erT) (h : RS r r') : erT (tokR l e r) = erT (tokR l' e' r') := by
  unfold tokR
  rw [h.at_, h.bad]
  cases r'.bad with
  | true => rfl
  | false =>
    have := congrArg (fun x : List Tok => x[r'.at_]?) hl
    simp only [List.getElem?_map] at this
    simp only [Bool.false_eq_true, if_false]
    cases h1 : l[r'.at_]? with
    | none =>
      rw [h1] at this
      cases h2 : l'[r'.at_]? with
      | none => rfl
      | some t => rw [h2] at this; cases this
    | some t =>
      rw [h1] at this
      cases h2 : l'[r'.at_]? with
      | none => rw [h2] at this; cases this
      | some t' => rw [h2] at this; exact Option.some.inj this
theorem k_er (hl : l.map erT = l'.map erT) (h : RS r r') : (tokR l e r).k = (tokR l' e' r').k := (show (erT (tokR l e r)).k = (erT (tokR l' e' r')).k by rw [tok_er (e := e) (e' := e') hl h])
theorem tx_er (hl : l.map erT = l'.map erT) (h : RS r r') : (tokR l e r).tx = (tokR l' e' r').tx := (show (erT (tokR l e r)).tx = (erT (tokR l' e' r')).tx by rw [tok_er (e := e) (e' := e') hl h])
theorem n_er (hl : l.map erT = l'.map erT) (h : RS r r') : (tokR l e r).n = (tokR l' e' r').n := (show (erT (tokR l e r)).n = (erT (tokR l' e' r')).n by rw [tok_er (e := e) (e' := e') hl h])
theorem on_rs (h : RS r r') : RS (onR r) (onR r') := by
  unfold onR
  rw [h.bad]
  split
  · exact h
  · exact ⟨by rw [h.at_], rfl, h.es⟩
theorem fail_rs (h : RS r r') (x : Int) : RS (failR l e r x) (failR l' e' r' x) := by
  unfold failR
  rw [h.bad]
  split
  · exact h
  · exact ⟨h.at_, rfl, rfl⟩
theorem is_rs (hl : l.map erT = l'.map erT) (h : RS r r') (t : ByteArray) : isR l e r t = isR l' e' r' t := by
  unfold isR
  rw [k_er (e := e) (e' := e') hl h, tx_er (e := e) (e' := e') hl h]
theorem want_rs (hl : l.map erT = l'.map erT) (h : RS r r') (t : ByteArray) : RS (wantR l e r t) (wantR l' e' r' t) := by
  unfold wantR
  rw [is_rs (e := e) (e' := e') hl h]
  split
  · exact on_rs h
  · exact fail_rs h _
theorem kindT_er (hl : l.map erT = l'.map erT) (h : RS r r') (k : Int) : erT (kindT l e r k) = erT (kindT l' e' r' k) := by
  unfold kindT
  rw [k_er (e := e) (e' := e') hl h]
  split
  · exact tok_er hl h
  · rfl
theorem kindTx_er (hl : l.map erT = l'.map erT) (h : RS r r') (k : Int) : (kindT l e r k).tx = (kindT l' e' r' k).tx := by
  show (erT (kindT l e r k)).tx = (erT (kindT l' e' r' k)).tx
  rw [kindT_er (e := e) (e' := e') hl h]
theorem kindN_er (hl : l.map erT = l'.map erT) (h : RS r r') (k : Int) : (kindT l e r k).n = (kindT l' e' r' k).n := by
  show (erT (kindT l e r k)).n = (erT (kindT l' e' r' k)).n
  rw [kindT_er (e := e) (e' := e') hl h]
theorem kind_rs (hl : l.map erT = l'.map erT) (h : RS r r') (k : Int) : RS (kindR l e r k) (kindR l' e' r' k) := by
  unfold kindR
  rw [k_er (e := e) (e' := e') hl h]
  split
  · exact on_rs h
  · exact fail_rs h _
theorem names_sim (hl : l.map erT = l'.map erT) {ns : List ByteArray} (h : NamesR l e r ns s) : ∀ {r' s' : Rd} {ns' : List ByteArray}, RS r r' → NamesR l' e' r' ns' s' → ns = ns' ∧ RS s s' := by
  induction h with
  | done hk =>
    intro r' s' ns' hr h'
    cases h' with
    | done _ => exact ⟨rfl, hr⟩
    | more hk' _ => rw [← k_er (e := e) hl hr] at hk'; exact absurd hk' hk
  | more hk _ ih =>
    intro r' s' ns' hr h'
    cases h' with
    | done hk' => rw [← k_er (e := e) hl hr] at hk'; exact absurd hk hk'
    | more _ t' =>
      obtain ⟨rfl, h2⟩ := ih (on_rs hr) t'
      exact ⟨by rw [tx_er (e := e) (e' := e') hl hr], h2⟩
theorem atoms_sim (hl : l.map erT = l'.map erT) {ns : List (ByteArray × Int)} (h : AtomsR l e r ns s) : ∀ {r' s' : Rd} {ns' : List (ByteArray × Int)}, RS r r' → AtomsR l' e' r' ns' s' → ns = ns' ∧ RS s s' := by
  induction h with
  | done hk =>
    intro r' s' ns' hr h'
    cases h' with
    | done _ => exact ⟨rfl, hr⟩
    | more hk' _ => rw [← k_er (e := e) hl hr] at hk'; exact absurd hk' hk
  | more hk _ ih =>
    intro r' s' ns' hr h'
    cases h' with
    | done hk' => rw [← k_er (e := e) hl hr] at hk'; exact absurd hk hk'
    | more _ t' =>
      obtain ⟨rfl, h2⟩ := ih (on_rs hr) t'
      exact ⟨by rw [tx_er (e := e) (e' := e') hl hr, n_er (e := e) (e' := e') hl hr], h2⟩
theorem many_sim {β : Type} {er : β → β} {B B' : Rd → β → Rd → Prop} (hl : l.map erT = l'.map erT) (hB : ∀ {r r' s s' : Rd} {x x' : β}, RS r r' → B r x s → B' r' x' s' → er x = er x' ∧ RS s s') {xs : List β} (h : ManyR l e B r xs s) : ∀ {r' s' : Rd} {xs' : List β}, RS r r' → ManyR l' e' B' r' xs' s' → xs.map er = xs'.map er ∧ RS s s' := by
  induction h with
  | done hk =>
    intro r' s' ns' hr h'
    cases h' with
    | done _ => exact ⟨rfl, hr⟩
    | more hk' hk2 _ _ =>
      rw [← hr.bad] at hk'
      rw [← is_rs (e := e) hl hr] at hk2
      rcases hk with k | k
      · rw [hk'] at k; cases k
      · rw [hk2] at k; cases k
  | more hk hk2 hb _ ih =>
    intro r' s' ns' hr h'
    cases h' with
    | done hk' =>
      rw [← hr.bad, ← is_rs (e := e) hl hr] at hk'
      rcases hk' with k | k
      · rw [hk] at k; cases k
      · rw [hk2] at k; cases k
    | more _ _ hb' t' =>
      obtain ⟨g1, g2⟩ := hB hr hb hb'
      obtain ⟨g3, g4⟩ := ih g2 t'
      exact ⟨by rw [List.map_cons, List.map_cons, g1, g3], g4⟩
theorem args_sim (hl : l.map erT = l'.map erT) {ns ns' : List ByteArray} (hr : RS r r') (h : ArgsR l e r ns s) (h' : ArgsR l' e' r' ns' s') : ns = ns' ∧ RS s s' := by
  unfold ArgsR at h h'
  rw [← is_rs (e := e) hl hr] at h'
  split at h
  · rename_i c
    rw [if_pos c] at h'
    obtain ⟨ms, t, h1, rfl, rfl⟩ := h
    obtain ⟨ms', t', h1', rfl, rfl⟩ := h'
    obtain ⟨rfl, g⟩ := names_sim hl h1 (kind_rs hl (on_rs hr) 1) h1'
    exact ⟨by rw [kindTx_er (e := e) (e' := e') hl (on_rs hr) 1], want_rs hl g _⟩
  · rename_i c
    rw [if_neg c] at h'
    obtain ⟨rfl, rfl⟩ := h
    obtain ⟨rfl, rfl⟩ := h'
    exact ⟨rfl, hr⟩
end
def Sim {β : Type} (er : β → β) (E : XRel β) : Prop := ∀ {l l' : List Tok} {e e' : Int}, l.map erT = l'.map erT → ∀ {r r' s s' : Rd} {x x' : β}, RS r r' → E l e r x s → E l' e' r' x' s' → er x = er x' ∧ RS s s'
theorem bind_sim {E : XRel Exp} (hE : Sim erE E) : Sim erB (BindR E) := by
  intro l l' e e' hl r r' s s' x x' hr h h'
  obtain ⟨ns, s3, y, s4, h1, h2, rfl, rfl⟩ := h
  obtain ⟨ns', s3', y', s4', h1', h2', rfl, rfl⟩ := h'
  obtain ⟨rfl, g1⟩ := args_sim hl (want_rs hl (kind_rs hl hr 1) _) h1 h1'
  obtain ⟨g2, g3⟩ := hE hl g1 h2 h2'
  refine ⟨?_, want_rs hl g3 _⟩
  simp only [erB, g2]
  rw [kindTx_er (e := e) (e' := e') hl hr 1]
theorem head_sim {l l' : List Tok} {e e' : Int} (hl : l.map erT = l'.map erT) {r r' s s' : Rd} {k k' nv nv' : Int} {nm nm' : ByteArray} {ns ns' : List ByteArray} (hr : RS r r') (h : HeadR l e r k nm nv ns s) (h' : HeadR l' e' r' k' nm' nv' ns' s') : k = k' ∧ nm = nm' ∧ nv = nv' ∧ ns = ns' ∧ RS s s' := by
  unfold HeadR at h h'
  rw [← k_er (e := e) hl hr, ← tx_er (e := e) hl hr, ← n_er (e := e) hl hr] at h'
  split at h
  · rename_i c
    rw [if_pos c] at h'
    obtain ⟨rfl, rfl, rfl, h1⟩ := h
    obtain ⟨rfl, rfl, rfl, h1'⟩ := h'
    obtain ⟨rfl, g⟩ := names_sim hl h1 (on_rs hr) h1'
    exact ⟨rfl, rfl, rfl, rfl, g⟩
  rename_i c1
  rw [if_neg c1] at h'
  split at h
  · rename_i c
    rw [if_pos c] at h'
    obtain ⟨rfl, rfl, rfl, rfl, rfl⟩ := h
    obtain ⟨rfl, rfl, rfl, rfl, rfl⟩ := h'
    exact ⟨rfl, rfl, rfl, rfl, on_rs hr⟩
  rename_i c2
  rw [if_neg c2] at h'
  split at h
  · rename_i c
    rw [if_pos c] at h'
    obtain ⟨rfl, rfl, rfl, rfl, rfl⟩ := h
    obtain ⟨rfl, rfl, rfl, rfl, rfl⟩ := h'
    exact ⟨rfl, rfl, rfl, rfl, on_rs hr⟩
  rename_i c3
  rw [if_neg c3] at h'
  obtain ⟨rfl, rfl, rfl, rfl, rfl⟩ := h
  obtain ⟨rfl, rfl, rfl, rfl, rfl⟩ := h'
  exact ⟨rfl, rfl, rfl, rfl, fail_rs hr _⟩
theorem alt_sim {E : XRel Exp} (hE : Sim erE E) : Sim erL (AltR E) := by
  intro l l' e e' hl r r' s s' x x' hr h h'
  obtain ⟨k, nm, nv, ns, s1, y, s4, h1, h2, rfl, rfl⟩ := h
  obtain ⟨k', nm', nv', ns', s1', y', s4', h1', h2', rfl, rfl⟩ := h'
  obtain ⟨rfl, rfl, rfl, rfl, g1⟩ := head_sim hl hr h1 h1'
  obtain ⟨g2, g3⟩ := hE hl (want_rs hl g1 _) h2 h2'
  exact ⟨by simp only [erL, g2], want_rs hl g3 _⟩
theorem step_sim {E : XRel Exp} (hE : Sim erE E) : Sim erE (StepR E) := by
  intro l l' e e' hl r r' s s' x x' hr h h'
  unfold StepR at h h'
  rw [← hr.bad, ← k_er (e := e) hl hr, ← tx_er (e := e) hl hr, ← n_er (e := e) hl hr, ← is_rs (e := e) hl hr, ← is_rs (e := e) hl hr, ← is_rs (e := e) hl hr] at h'
  split at h
  · rename_i c
    rw [if_pos c] at h'
    obtain ⟨rfl, rfl⟩ := h
    obtain ⟨rfl, rfl⟩ := h'
    exact ⟨rfl, hr⟩
  rename_i c; rw [if_neg c] at h'; clear c
  split at h
  · rename_i c
    rw [if_pos c] at h'
    obtain ⟨rfl, rfl⟩ := h
    obtain ⟨rfl, rfl⟩ := h'
    exact ⟨rfl, on_rs hr⟩
  rename_i c; rw [if_neg c] at h'; clear c
  split at h
  · rename_i c
    rw [if_pos c] at h'
    obtain ⟨ats, h1, rfl⟩ := h
    obtain ⟨ats', h1', rfl⟩ := h'
    obtain ⟨rfl, g⟩ := atoms_sim hl h1 (on_rs hr) h1'
    exact ⟨rfl, g⟩
  rename_i c; rw [if_neg c] at h'; clear c
  split at h
  · rename_i c
    rw [if_pos c] at h'
    obtain ⟨y, sB, ys, s3, kx, h1, h2, h3, rfl⟩ := h
    obtain ⟨y', sB', ys', s3', kx', h1', h2', h3', rfl⟩ := h'
    obtain ⟨g1, g2⟩ := bind_sim hE hl (want_rs hl (on_rs hr) _) h1 h1'
    obtain ⟨g3, g4⟩ := many_sim hl (fun a b c => bind_sim hE hl a b c) h2 g2 h2'
    obtain ⟨g5, g6⟩ := hE hl (want_rs hl (want_rs hl g4 _) _) h3 h3'
    refine ⟨?_, g6⟩
    simp only [erE, erBs, erEs, erLs, erBs_map, g1, g3, g5]
  rename_i c; rw [if_neg c] at h'; clear c
  split at h
  · rename_i c
    rw [if_pos c] at h'
    obtain ⟨kx, s1, y, sB, ys, s3, h1, h2, h3, rfl, rfl⟩ := h
    obtain ⟨kx', s1', y', sB', ys', s3', h1', h2', h3', rfl, rfl⟩ := h'
    obtain ⟨g1, g2⟩ := hE hl (on_rs hr) h1 h1'
    obtain ⟨g3, g4⟩ := alt_sim hE hl (want_rs hl (want_rs hl g2 _) _) h2 h2'
    obtain ⟨g5, g6⟩ := many_sim hl (fun a b c => alt_sim hE hl a b c) h3 g4 h3'
    refine ⟨?_, want_rs hl g6 _⟩
    simp only [erE, erBs, erEs, erLs, erLs_map, g1, g3, g5]
  rename_i c; rw [if_neg c] at h'; clear c
  split at h
  · rename_i c
    rw [if_pos c] at h'
    obtain ⟨s1, h1, rfl⟩ := h
    obtain ⟨s1', h1', rfl⟩ := h'
    obtain ⟨g1, g2⟩ := hE hl (on_rs hr) h1 h1'
    exact ⟨g1, want_rs hl g2 _⟩
  rename_i c; rw [if_neg c] at h'; clear c
  obtain ⟨rfl, rfl⟩ := h
  obtain ⟨rfl, rfl⟩ := h'
  exact ⟨rfl, fail_rs hr _⟩
theorem zero_sim : Sim erE (expRel 0) := by
  intro l l' e e' hl r r' s s' x x' hr h h'
  obtain ⟨rfl, rfl⟩ := h
  obtain ⟨rfl, rfl⟩ := h'
  exact ⟨rfl, fail_rs hr _⟩
theorem exp_sim (n : Nat) : Sim erE (expRel n) := by
  induction n with
  | zero => exact zero_sim
  | succ n ih => exact step_sim ih
theorem datas_sim {l l' : List Tok} {e e' : Int} (hl : l.map erT = l'.map erT) {r s : Rd} {ds : List Dat} (h : DatasR l e r ds s) : ∀ {r' s' : Rd} {ds' : List Dat}, RS r r' → DatasR l' e' r' ds' s' → ds.map erD = ds'.map erD ∧ RS s s' := by
  induction h with
  | done hk =>
    intro r' s' ns' hr h'
    cases h' with
    | done _ => exact ⟨rfl, hr⟩
    | more hk' _ => rw [← is_rs (e := e) hl hr, hk] at hk'; cases hk'
  | more hk _ ih =>
    intro r' s' ns' hr h'
    cases h' with
    | done hk' => rw [← is_rs (e := e) hl hr, hk] at hk'; cases hk'
    | more _ t' =>
      have q1 := on_rs hr
      have q2 := kind_rs (e := e) (e' := e') hl q1 2
      obtain ⟨g1, g2⟩ := ih (want_rs hl (kind_rs hl q2 4) _) t'
      refine ⟨?_, g2⟩
      rw [List.map_cons, List.map_cons, g1]
      congr 1
      show (⟨_, _, _⟩ : Dat) = ⟨_, _, _⟩
      rw [kindTx_er (e := e) (e' := e') hl q1 2, kindN_er (e := e) (e' := e') hl q2 4]
theorem tops_sim {l l' : List Tok} {e e' : Int} {B B' : Rd → Bind → Rd → Prop} (hl : l.map erT = l'.map erT) (hB : ∀ {r r' s s' : Rd} {x x' : Bind}, RS r r' → B r x s → B' r' x' s' → erB x = erB x' ∧ RS s s') {r s : Rd} {xs : List Bind} (h : TopsR l e B r xs s) : ∀ {r' s' : Rd} {xs' : List Bind}, RS r r' → TopsR l' e' B' r' xs' s' → xs.map erB = xs'.map erB ∧ RS s s' := by
  have hlen : l.length = l'.length := by have := congrArg List.length hl; simpa using this
  induction h with
  | done hk =>
    intro r' s' ns' hr h'
    cases h' with
    | done _ => exact ⟨rfl, hr⟩
    | more hk' hk2 _ _ =>
      rw [← hr.bad] at hk'
      rw [← hr.at_, ← hlen] at hk2
      rcases hk with k | k
      · rw [hk'] at k; cases k
      · omega
  | more hk hk2 hb _ ih =>
    intro r' s' ns' hr h'
    cases h' with
    | done hk' =>
      rw [← hr.bad, ← hr.at_, ← hlen] at hk'
      rcases hk' with k | k
      · rw [hk] at k; cases k
      · omega
    | more _ _ hb' t' =>
      obtain ⟨g1, g2⟩ := hB hr hb hb'
      obtain ⟨g3, g4⟩ := ih g2 t'
      exact ⟨by rw [List.map_cons, List.map_cons, g1, g3], g4⟩
/-- Two texts of the same tokens, but for their places, are read the same, but for places. -/
theorem parse_sim {s t : ByteArray} (hs : (scanAll s).2.2 = 0) (ht : (scanAll t).2.2 = 0) (hl : (scanAll s).1.map erT = (scanAll t).1.map erT) {ds ds' : List Dat} {bs bs' : List Bind} {a a' e e' : Int}
    (h : ParseR s ds bs a e) (h' : ParseR t ds' bs' a' e') : ds.map erD = ds'.map erD ∧ erBs bs = erBs bs' := by
  unfold ParseR at h h'
  rw [if_pos hs] at h
  rw [if_pos ht] at h'
  obtain ⟨d1, r1, b1, r2, h1, h2, h3⟩ := h
  obtain ⟨d1', r1', b1', r2', h1', h2', h3'⟩ := h'
  obtain ⟨g1, g2⟩ := datas_sim hl h1 ⟨rfl, rfl, rfl⟩ h1'
  obtain ⟨g3, g4⟩ := tops_sim hl (fun a b c => bind_sim (exp_sim 60) hl a b c) h2 g2 h2'
  rw [← g4.bad] at h3'
  split at h3
  · rename_i c
    rw [if_pos c] at h3'
    obtain ⟨rfl, rfl, _, _⟩ := h3
    obtain ⟨rfl, rfl, _, _⟩ := h3'
    exact ⟨rfl, rfl⟩
  · rename_i c
    rw [if_neg c] at h3'
    obtain ⟨rfl, rfl, _, _⟩ := h3
    obtain ⟨rfl, rfl, _, _⟩ := h3'
    exact ⟨g1, by rw [erBs_map, erBs_map, g3]⟩
end Go.Proofs.YtoepmdbicdoieaaDoor.X
