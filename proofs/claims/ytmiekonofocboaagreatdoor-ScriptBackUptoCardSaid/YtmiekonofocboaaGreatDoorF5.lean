/- The evaluator, part 5: maps, looked up. -/
import Derived.Test.YtmiekonofocboaaGreatDoorF4
import Derived.Laws.Runes
import Derived.WideLaws
set_option linter.unusedVariables false
set_option linter.unusedSectionVars false
set_option linter.unusedSimpArgs false
namespace Go.AM
open Go Go.RowKit Go.Eng

theorem mget_mem {α : Type} [DecidableEq α] : ∀ {l : List (α × Value)} {a : α} {v : Value}, (l.map (·.1)).Nodup → (a, v) ∈ l → mget l a = some v
  | p :: l, a, v, hn, hm => by
    rw [List.map_cons, List.nodup_cons] at hn
    simp only [mget]
    rcases List.mem_cons.1 hm with h | h
    · subst h; simp
    · rw [if_neg (fun e => hn.1 (by rw [e]; exact List.mem_map_of_mem (f := (·.1)) h))]
      exact mget_mem hn.2 h
theorem mget_some {α : Type} [DecidableEq α] : ∀ {l : List (α × Value)} {a : α} {v : Value}, mget l a = some v → (a, v) ∈ l
  | p :: l, a, v, h => by
    simp only [mget] at h
    split at h
    · rename_i e; cases h; subst e; exact List.mem_cons_self
    · exact List.mem_cons_of_mem _ (mget_some h)
theorem mget_perm {α : Type} [DecidableEq α] {l l2 : List (α × Value)} (h : l.Perm l2) (hn : (l2.map (·.1)).Nodup) (a : α) : mget l a = mget l2 a := by
  have hn1 : (l.map (·.1)).Nodup := (h.map (·.1)).nodup_iff.2 hn
  cases e : mget l2 a with
  | some v => exact mget_mem hn1 (h.mem_iff.2 (mget_some e))
  | none =>
    cases e2 : mget l a with
    | none => rfl
    | some v => rw [mget_mem hn (h.mem_iff.1 (mget_some e2))] at e; cases e
/-- How keys of a kind are named. -/
structure KX {α : Type} [DecidableEq α] (kind : TypeDesc) (k : α → Value) (kx : α → X) : Prop where
  ok : KeyOk kind k
  eq : ∀ a b, keyEq (kx a) (kx b) = some (decide (a = b))
  den : ∀ (e : Env) a, AM.den e (kx a) = some (k a)
theorem kx_int (i : IntKind) : KX (.int i) (Value.int i) (X.i i) := ⟨keyInt i, fun a b => by simp [keyEq], fun e a => rfl⟩
theorem keyS_all (b : ByteArray) : (b.data.toList.map UInt8.toNat).all (fun n => Nat.blt n 256) = true := by
  rw [List.all_eq_true]
  intro n hn
  obtain ⟨b, _, rfl⟩ := List.mem_map.1 hn
  exact bltT.2 b.toNat_lt
theorem keyS_den (e : Env) (b : ByteArray) : den e (keyS b) = some (.string b) := by
  unfold keyS; rw [den_s' (keyS_all b), str_of]
theorem kx_str : KX .string Value.string keyS := by
  refine ⟨keyStr, fun a b => ?_, keyS_den⟩
  simp only [keyS, keyEq, Option.some.injEq]
  rw [Bool.eq_iff_iff, sameS_iff, decide_eq_true_iff]
  refine ⟨fun h => ?_, fun h => by rw [h]⟩
  have := (str_inj (keyS_all a) (keyS_all b)).2 h
  rwa [str_of, str_of] at this
theorem keyS_of {l : List Nat} (h : l.all (fun n => Nat.blt n 256) = true) : keyS (str l) = .s l := by
  unfold keyS
  congr 1
  have h1 := keyS_all (str l)
  exact (str_inj h1 h).1 (str_of _)
theorem mgetX_run {α : Type} [DecidableEq α] {kind : TypeDesc} {k : α → Value} {kx : α → X} (hk : KX kind k kx) {e : Env} {a : α} : ∀ {es : List (X × X)} {l : List (α × Value)} {r : Option X}, EntsAre e kx es l → mgetX es (kx a) = some r →
    (r = none ∧ mget l a = none) ∨ ∃ x v, r = some x ∧ den e x = some v ∧ mget l a = some v
  | [], l, r, he, h => by
    simp only [EntsAre] at he
    subst he
    simp only [mgetX, Option.some.injEq] at h
    subst h
    exact .inl ⟨rfl, rfl⟩
  | (kk, v) :: es, l, r, he, h => by
    obtain ⟨b, u, l', rfl, h2, rfl, h4⟩ := he
    simp only [mgetX, hk.eq] at h
    by_cases e1 : b = a
    · subst e1
      simp only [decide_true, Option.some.injEq] at h
      subst h
      exact .inr ⟨v, u, rfl, h2, by simp [mget]⟩
    · rw [decide_eq_false e1] at h
      simp only [mget, if_neg e1]
      exact mgetX_run hk h4 h
theorem keyD_cases {d : TypeDesc} {x : X} (h : keyD d x = true) : (∃ ik n, d = .int ik ∧ x = .i ik n) ∨ ∃ l, d = .string ∧ x = .s l := by
  unfold keyD at h
  split at h
  · have := of_decide_eq_true h
    subst this
    exact .inl ⟨_, _, rfl, rfl⟩
  · exact .inr ⟨_, rfl, rfl⟩
  · cases h
/-- A known map, as the world holds it, for keys of a kind. -/
theorem Fit.map {B : World} {e : Env} {hp : Hp} {U : Nat → Prop} {w : World} (hf : Fit B e hp U w) {id : Nat} {es : List (X × X)} {it : Option ItX} {z : EE} (hb : find hp id = some (.m es it)) (he : e id = some z) :
    ∃ real clock, w.heap[z.b]? = some (.map real clock) ∧ ((∃ ik, MapAre e w z.b (Value.int ik) (X.i ik) es it real clock) ∨ MapAre e w z.b Value.string keyS es it real clock) := by
  obtain ⟨o, h1, real, clock, h2, h3⟩ := hf.obj id _ z hb he
  subst h2
  exact ⟨real, clock, h1, h3⟩
theorem ents_nil_or {α β : Type} {e : Env} {kx : α → X} {ky : β → X} (hne : ∀ a b, kx a ≠ ky b) {es : List (X × X)} {l : List (α × Value)} {m : List (β × Value)} (h : EntsAre e kx es l) (h' : EntsAre e ky es m) : es = [] := by
  cases es with
  | nil => rfl
  | cons p r =>
    obtain ⟨a, u, l', h1, _⟩ := h
    obtain ⟨b, v, m', h2, _⟩ := h'
    exact absurd (h1.symm.trans h2) (hne a b)
theorem lookup_run {P : Program} {α : Type} [DecidableEq α] {kind : TypeDesc} {k : α → Value} (hk : KeyOk kind k) {t kt et : TypeId} {u D : TD} {ck : Bool} {w : World} {mv : Value} {es : Array MapEntry} {l : List (α × Value)} {a : α} (ht : ty P t = some u) (hu : u.d = .map kt et) (hkt : P.underlying kt = some kind) (hD : ty P et = some D)
    (hm : (mv = .map none ∧ es = #[]) ∨ ∃ b c, mv = .map (some b) ∧ w.heap[b]? = some (.map es c)) (hes : MapAs k es l) :
    (Instr.lookup t mv (k a) ck).run P w = .ok (if ck then .tuple #[(mget l a).getD D.zero, .bool (mget l a).isSome] else (mget l a).getD D.zero) w := by
  have hmap : P.underlying t = some (.map kt et) := by have h2 := (ty_some ht).1; rw [hu] at h2; exact h2
  have hc := MapKept.run_checkKey (w := w) hkt (hk.key a) es.isEmpty 9999
  rcases hm with ⟨rfl, rfl⟩ | ⟨b, c, rfl, hb⟩
  · simp only [Instr.lookup, Sem.run_bind, run_underlying hmap, Result.andThen_ok, Sem.run_pure, hc]
    rcases find_as hk a (#[] : Array MapEntry).toList l 0 hes with ⟨g1, g2, _⟩ | ⟨j, v, e, g1, g2, _⟩
    · rw [MapKept.run_findKey hkt g2, g1]
      simp only [Result.andThen_ok, Sem.run_bind, ty_zero hD, Sem.run_pure, Option.getD_none, Option.isSome_none]
    · rw [MapKept.run_findKey hkt g2, g1]
      simp only [Result.andThen_ok, Sem.run_pure, Option.getD_some, Option.isSome_some]
      cases ck <;> rfl
  · have hg := MapKept.run_getObj_map (P := P) hb
    simp only [Instr.lookup, Sem.run_bind, run_underlying hmap, Result.andThen_ok, hg, Sem.run_pure, hc]
    rcases find_as hk a es.toList l 0 hes with ⟨g1, g2, _⟩ | ⟨j, v, e, g1, g2, _⟩
    · rw [MapKept.run_findKey hkt g2, g1]
      simp only [Result.andThen_ok, Sem.run_bind, ty_zero hD, Sem.run_pure, Option.getD_none, Option.isSome_none]
    · rw [MapKept.run_findKey hkt g2, g1]
      simp only [Result.andThen_ok, Sem.run_pure, Option.getD_some, Option.isSome_some]
      cases ck <;> rfl
theorem lkX_run {P : Program} {τ : Ty} (hτ : TyOk P τ) {B : World} {e : Env} {hp : Hp} {U : Nat → Prop} {n : Nat} {fr : Tr X} {dm : List DM} {a : Act} {w : World} (hk : KnX e n fr dm a) (hf : Fit B e hp U w) {t : TypeId} {x i : Operand} {ok : Bool} {y : X} (h : lkX τ fr hp t x i ok = some y) :
    ∃ v, den e y = some v ∧ (Instr.lookup t (a.eval x) (a.eval i) ok).run P w = .ok v w := by
  unfold lkX at h
  split at h
  · rename_i kt et _ _ _ mx kx ht hx hi
    obtain ⟨vm, m1, m2⟩ := ev_run hk hx
    obtain ⟨vk, k1, k2⟩ := ev_run hk hi
    split at h
    · rename_i KD D hKD hD
      split at h
      · rename_i es z hes hz hkd
        have fin : ∀ {α : Type} [DecidableEq α] {k : α → Value} {kxf : α → X} (hK : KX KD.d k kxf) (b : α), kx = kxf b → ∀ (real : Array MapEntry) (l l2 : List (α × Value)), ((vm = .map none ∧ real = #[]) ∨ ∃ g c, vm = .map (some g) ∧ w.heap[g]? = some (.map real c)) →
            MapAs k real l → l.Perm l2 → (l2.map (·.1)).Nodup → EntsAre e kxf es l2 → ∃ v, den e y = some v ∧ (Instr.lookup t (a.eval x) (a.eval i) ok).run P w = .ok v w := by
          intro α _ k kxf hK b hkx real l l2 hreal h1 h2 h3 h4
          subst hkx
          rw [hK.den] at k1
          cases k1
          rw [m2, k2]
          have hr := lookup_run (P := P) (ck := ok) (a := b) hK.ok (hτ _ _ ht) rfl (by rw [(ty_some (hτ _ _ hKD)).1]) (hτ _ _ hD) hreal h1
          rw [mget_perm h2 h3] at hr
          split at h
          · rename_i v hv
            rcases mgetX_run hK h4 hv with ⟨h5, _⟩ | ⟨x', u, h5, h6, h7⟩
            · cases h5
            · cases h5
              rw [h7] at hr
              cases ok with
              | true => cases h; exact ⟨_, by simp only [den, denL, h6]; rfl, hr⟩
              | false => cases h; exact ⟨_, h6, hr⟩
          · rename_i hv
            rcases mgetX_run hK h4 hv with ⟨_, h7⟩ | ⟨x', u, h5, _⟩
            · rw [h7] at hr
              have hz' := xof_den hz e
              cases ok with
              | true => cases h; exact ⟨_, by simp only [den, denL, hz']; rfl, hr⟩
              | false => cases h; exact ⟨_, hz', hr⟩
            · cases h5
          · cases h
        -- the map's own keys and the key asked
        have both : ∀ {α : Type} [DecidableEq α] {k : α → Value} {kxf : α → X} (hK : KX KD.d k kxf) (b : α), kx = kxf b → (∀ real clock g z0, MapAre e w g k kxf es z0 real clock → vm = .map (some g) → w.heap[g]? = some (.map real clock) → ∃ v, den e y = some v ∧ (Instr.lookup t (a.eval x) (a.eval i) ok).run P w = .ok v w) := by
          intro α _ k kxf hK b hkx real clock g z0 hm hvm hg
          obtain ⟨l, l2, h1, h2, h3, h4, _⟩ := hm
          exact fin hK b hkx real l l2 (.inr ⟨g, clock, hvm, hg⟩) h1 h2 h3 h4
        have empty : ∀ {α : Type} [DecidableEq α] {k : α → Value} {kxf : α → X} (hK : KX KD.d k kxf) (b : α), kx = kxf b → ∀ real, real = #[] → es = [] → ((vm = .map none ∧ real = #[]) ∨ ∃ g c, vm = .map (some g) ∧ w.heap[g]? = some (.map real c)) → ∃ v, den e y = some v ∧ (Instr.lookup t (a.eval x) (a.eval i) ok).run P w = .ok v w := by
          intro α _ k kxf hK b hkx real h1 h2 h3
          subst h1; subst h2
          exact fin hK b hkx _ [] [] h3 rfl (.refl _) (by simp) rfl
        have emp : ∀ {α : Type} [DecidableEq α] {k : α → Value} {kxf : α → X} {z0 : Option ItX} {real : Array MapEntry} {clock g : Nat}, MapAre e w g k kxf [] z0 real clock → real = #[] := by
          intro α _ k kxf z0 real clock g hm
          obtain ⟨l, l2, h1, h2, h3, h4, _⟩ := hm
          simp only [EntsAre] at h4
          subst h4
          have := h2.eq_nil
          subst this
          unfold MapAs at h1
          simpa using h1
        have hid : ∀ {d : TypeDesc}, KD.d = d → ∀ {α : Type} [DecidableEq α] {k : α → Value} {kxf : α → X}, KX d k kxf → KX KD.d k kxf := by
          intro d h; subst h; exact fun h => h
        unfold mapX at hes
        split at hes
        · cases hes
          simp only [den, Option.some.injEq] at m1
          subst m1
          rcases keyD_cases hkd with ⟨ik, m, hd, rfl⟩ | ⟨ls, hd, rfl⟩
          · exact empty (hid hd (kx_int ik)) m rfl #[] rfl rfl (.inl ⟨rfl, rfl⟩)
          · obtain ⟨ha, _⟩ := den_s k1
            exact empty (hid hd kx_str) (str ls) (keyS_of ha).symm #[] rfl rfl (.inl ⟨rfl, rfl⟩)
        · split at hes
          · rename_i hb
            cases hes
            obtain ⟨zz, hzz, rfl⟩ := den_m m1
            obtain ⟨real, clock, hg, hm⟩ := hf.map hb hzz
            rcases keyD_cases hkd with ⟨ik, m, hd, rfl⟩ | ⟨ls, hd, rfl⟩
            · rcases hm with ⟨ik', hm⟩ | hm
              · by_cases hik : ik' = ik
                · subst hik; exact both (hid hd (kx_int _)) m rfl real clock _ _ hm rfl hg
                · cases es with
                  | nil => exact empty (hid hd (kx_int ik)) m rfl real (emp hm) rfl (.inr ⟨_, _, rfl, hg⟩)
                  | cons p r =>
                    obtain ⟨_, _, _, _, _, ⟨b, u, l', h1, _⟩, _⟩ := hm
                    obtain ⟨p1, p2⟩ := p
                    subst h1
                    simp only [mgetX, keyEq, if_neg hik] at h
                    cases h
              · cases es with
                | nil => exact empty (hid hd (kx_int ik)) m rfl real (emp hm) rfl (.inr ⟨_, _, rfl, hg⟩)
                | cons p r =>
                  obtain ⟨_, _, _, _, _, ⟨b, u, l', h1, _⟩, _⟩ := hm
                  obtain ⟨p1, p2⟩ := p
                  subst h1
                  simp only [mgetX, keyS, keyEq] at h
                  cases h
            · obtain ⟨ha, _⟩ := den_s k1
              rcases hm with ⟨ik', hm⟩ | hm
              · cases es with
                | nil => exact empty (hid hd kx_str) (str ls) (keyS_of ha).symm real (emp hm) rfl (.inr ⟨_, _, rfl, hg⟩)
                | cons p r =>
                  obtain ⟨_, _, _, _, _, ⟨b, u, l', h1, _⟩, _⟩ := hm
                  obtain ⟨p1, p2⟩ := p
                  subst h1
                  simp only [mgetX, keyEq] at h
                  cases h
              · exact both (hid hd kx_str) (str ls) (keyS_of ha).symm real clock _ _ hm rfl hg
          · cases hes
        · cases hes
      · cases h
    · cases h
  · cases h
theorem chX_run {P : Program} {τ : Ty} (hτ : TyOk P τ) {e : Env} {n : Nat} {fr : Tr X} {dm : List DM} {a : Act} {w : World} (hk : KnX e n fr dm a) {s d : TypeId} {x : Operand} {y : X} (h : chX τ fr s d x = some y) :
    ∃ v, den e y = some v ∧ (convert s d (a.eval x)).run P w = .ok v w := by
  unfold chX at h
  split at h
  · rename_i k1 zs1 zs2 zs3 zd1 zd2 zd3 k m h1 h2 h3
    split at h
    · rename_i hm
      cases h
      obtain ⟨v, g1, g2⟩ := ev_run hk h3
      simp only [den, Option.some.injEq] at g1
      subst g1
      have hm := of_decide_eq_true hm
      rw [g2]
      refine ⟨.string (str [m.toNat]), ?_, ?_⟩
      · have : Nat.blt m.toNat 256 = true := by simp; omega
        simp only [den, List.all_cons, this, List.all_nil, Bool.and_self, if_true]
      · have e1 : Utf8.encode m = str [m.toNat] := by
          unfold Utf8.encode
          have hv : Utf8.valid m = true := by unfold Utf8.valid; simp; omega
          have hl : m.toNat < 128 := by omega
          simp only [hv, if_true, hl, str, List.map_cons, List.map_nil]
        rw [← e1]
        exact run_convert_int_string w s d k m (by rw [(ty_some (hτ _ _ h1)).1]; rfl) (ty_some (hτ _ _ h2)).1
    · cases h
  · cases h
theorem nilX_run {P : Program} {τ : Ty} (hτ : TyOk P τ) {e : Env} {n : Nat} {fr : Tr X} {dm : List DM} {a : Act} {w : World} (hk : KnX e n fr dm a) {op : BinOp} {t : TypeId} {x y : Operand} {r : X} (h : nilX τ fr op t x y = some r) :
    ∃ v, den e r = some v ∧ (do eqGuard op t x y (a.eval x) (a.eval y); binOp op t (a.eval x) (a.eval y) : Sem Value).run P w = .ok v w := by
  have met : ∀ {ms}, P.underlying t = some (.interface ms) → P.underlying t = some (.interface (P.methodsAt t)) := fun h => by rw [h]; simp [Program.methodsAt, h]
  unfold nilX at h
  split at h
  · rename_i ms z1 z2 z3 h1 h2
    have hu := met (ty_some (hτ _ _ h1)).1
    obtain ⟨v, g1, g2⟩ := ev_run hk h2
    simp only [den, Option.some.injEq] at g1
    subst g1
    have g3 : a.eval (.const .nilIface) = .nilIface := rfl
    rw [g2, g3]
    split at h
    · cases h
      exact ⟨.bool true, rfl, by simp [eqGuard, run_eql_nil_nil w t hu]⟩
    · cases h
      exact ⟨.bool false, rfl, by simp [eqGuard, run_neq_nil_nil w t hu]⟩
    · cases h
  · rename_i ms z1 z2 z3 u q h1 h2
    have hu := met (ty_some (hτ _ _ h1)).1
    obtain ⟨v, g1, g2⟩ := ev_run hk h2
    simp only [den] at g1
    split at g1
    · rename_i v' hv'
      cases g1
      have g3 : a.eval (.const .nilIface) = .nilIface := rfl
      rw [g2, g3]
      split at h
      · cases h
        exact ⟨.bool false, rfl, by simp [eqGuard, run_eql_held_nil w t u v' hu]⟩
      · cases h
        exact ⟨.bool true, rfl, by simp [eqGuard, run_neq_held_nil w t u v' hu]⟩
      · cases h
    · cases g1
  · rename_i z1 z2 z3 z4 z5 z6 h1 h2
    have hu := (ty_some (hτ _ _ h1)).1
    obtain ⟨v, g1, g2⟩ := ev_run hk h2
    simp only [den, Option.some.injEq] at g1
    subst g1
    have g3 : a.eval (.const .nilFunc) = .nilFunc := rfl
    rw [g2, g3]
    have he : (Op.equal t .nilFunc .nilFunc).run P w = .ok true w := by
      unfold Op.equal
      rw [show Op.maxDepth = 9999 + 1 from rfl, Op.equalIn]
      simp [run_underlying hu]
    split at h
    · cases h
      exact ⟨.bool true, rfl, by simp [eqGuard, binOp, he]⟩
    · cases h
      exact ⟨.bool false, rfl, by simp [eqGuard, binOp, he]⟩
    · cases h
  · rename_i z1 z2 z3 z4 z5 z6 fn fa fc h1 h2
    have hu := (ty_some (hτ _ _ h1)).1
    obtain ⟨v, g1, g2⟩ := ev_run hk h2
    simp only [den] at g1
    split at g1
    · rename_i la lc _ _
      cases g1
      have g3 : a.eval (.const .nilFunc) = .nilFunc := rfl
      rw [g2, g3]
      have he : (Op.equal t (.func fn la.toArray lc.toArray) .nilFunc).run P w = .ok false w := by
        unfold Op.equal
        rw [show Op.maxDepth = 9999 + 1 from rfl, Op.equalIn]
        simp [run_underlying hu]
      split at h
      · cases h
        exact ⟨.bool false, rfl, by simp [eqGuard, binOp, he]⟩
      · cases h
        exact ⟨.bool true, rfl, by simp [eqGuard, binOp, he]⟩
      · cases h
    · cases g1
  · cases h
theorem arX_run {P : Program} {τ : Ty} (hτ : TyOk P τ) {e : Env} {n : Nat} {fr : Tr X} {dm : List DM} {a : Act} {w : World} (hk : KnX e n fr dm a) {t : TypeId} {x ix : Operand} {r : X} (h : arX τ fr t x ix = some r) :
    ∃ v, den e r = some v ∧ (Instr.index t (a.eval x) (a.eval ix)).run P w = .ok v w := by
  unfold arX at h
  split at h
  · rename_i len el z1 z2 z3 l k i h1 h2 h3
    split at h
    · rename_i j D hj hD
      obtain ⟨v, g1, g2⟩ := ev_run hk h2
      obtain ⟨vi, g3, g4⟩ := ev_run hk h3
      obtain ⟨vs, g5, rfl⟩ := den_agg g1
      simp only [den, Option.some.injEq] at g3
      subst g3
      obtain ⟨v, k1, k2⟩ := rdX_run g5 h
      refine ⟨v, k1, ?_⟩
      have hp : (part el vs.toArray (j * D.size)).run P w = .ok v w := part_run (hτ _ _ hD) (by simpa using k2)
      obtain ⟨q1, q2⟩ : 0 ≤ i ∧ i < len ∧ i.toNat = j := by
        have := idxN_idx hj
        unfold idx at this
        split at this
        · rename_i hh; cases this; exact ⟨hh.1, by omega, rfl⟩
        · cases this
      rw [g2, g4]
      simp [Instr.index, asIntOf, run_underlying (ty_some (hτ _ _ h1)).1, q1, q2.1, q2.2, ty_size (hτ _ _ hD), hp]
    · cases h
  · cases h
theorem aqq_run {P : Program} {τ : Ty} (hτ : TyOk P τ) {B : World} {e : Env} {hp : Hp} {U : Nat → Prop} {n : Nat} {fr : Tr X} {dm : List DM} {a : Act} {w : World} (hk : KnX e n fr dm a) (hf : Fit B e hp U w) {o : Oper} {y : X} (h : aqq P τ fr hp o.op = some y) :
    ∃ v, den e y = some v ∧ (execOp a.eval o).run P w = .ok (.value v) w := by
  unfold aqq at h
  split at h
  · rename_i hop
    obtain ⟨v, h1, h2⟩ := lkX_run hτ hk hf h
    obtain ⟨dst, op, type, pos, after, guard⟩ := o
    simp only at hop
    subst hop
    exact ⟨v, h1, run_value rfl h2⟩
  · rename_i s d x hop
    split at h
    · rename_i y' hy
      cases h
      obtain ⟨v, h1, h2⟩ := chX_run (w := w) hτ hk hy
      obtain ⟨dst, op, type, pos, after, guard⟩ := o
      simp only at hop
      subst hop
      exact ⟨v, h1, run_value rfl h2⟩
    · rw [← hop] at h
      exact aq_run hτ hk hf h
  · rename_i t x ix hop
    split at h
    · rename_i y' hy
      cases h
      obtain ⟨v, h1, h2⟩ := arX_run (w := w) hτ hk hy
      obtain ⟨dst, op, type, pos, after, guard⟩ := o
      simp only at hop
      subst hop
      exact ⟨v, h1, run_value rfl h2⟩
    · rw [← hop] at h
      exact aq_run hτ hk hf h
  · rename_i op t x y z hop
    split at h
    · rename_i y' hy
      cases h
      obtain ⟨v, h1, h2⟩ := nilX_run (w := w) hτ hk hy
      obtain ⟨dst, op, type, pos, after, guard⟩ := o
      simp only at hop
      subst hop
      exact ⟨v, h1, run_value rfl h2⟩
    · rw [← hop] at h
      exact aq_run hτ hk hf h
  · exact aq_run hτ hk hf h
end Go.AM
