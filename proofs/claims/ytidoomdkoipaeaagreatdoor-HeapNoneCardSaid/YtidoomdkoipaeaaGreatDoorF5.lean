/- The evaluator, part 5: maps, looked up. -/
import Derived.Test.YtidoomdkoipaeaaGreatDoorF4
set_option linter.unusedVariables false
set_option linter.unusedSectionVars false
set_option linter.unusedSimpArgs false
namespace Go.AM
open Go Go.RowKit Go.Eng

theorem mget_mem {α : Type} [DecidableEq α] : ∀ {l : List (α × Value)} {a : α} {v : Value}, (l.map (·.1)).Nodup → (a, v) ∈ l → mget l a = some v
  | p :: l, a, v, hn, hm => by
    rw [List.map_cons, List.nodup_cons] at hn
    simp only [mget]
    rcases List.mem_cons.1 hm with h | h
    · subst h; simp
    · rw [if_neg (fun e => hn.1 (by rw [e]; exact List.mem_map_of_mem (f := (·.1)) h))]
      exact mget_mem hn.2 h
theorem mget_some {α : Type} [DecidableEq α] : ∀ {l : List (α × Value)} {a : α} {v : Value}, mget l a = some v → (a, v) ∈ l
  | p :: l, a, v, h => by
    simp only [mget] at h
    split at h
    · rename_i e; cases h; subst e; exact List.mem_cons_self
    · exact List.mem_cons_of_mem _ (mget_some h)
theorem mget_perm {α : Type} [DecidableEq α] {l l2 : List (α × Value)} (h : l.Perm l2) (hn : (l2.map (·.1)).Nodup) (a : α) : mget l a = mget l2 a := by
  have hn1 : (l.map (·.1)).Nodup := (h.map (·.1)).nodup_iff.2 hn
  cases e : mget l2 a with
  | some v => exact mget_mem hn1 (h.mem_iff.2 (mget_some e))
  | none =>
    cases e2 : mget l a with
    | none => rfl
    | some v => rw [mget_mem hn (h.mem_iff.1 (mget_some e2))] at e; cases e
/-- How keys of a kind are named. -/
structure KX {α : Type} [DecidableEq α] (kind : TypeDesc) (k : α → Value) (kx : α → X) : Prop where
  ok : KeyOk kind k
  eq : ∀ a b, keyEq (kx a) (kx b) = some (decide (a = b))
  den : ∀ (e : Env) a, AM.den e (kx a) = some (k a)
theorem kx_int (i : IntKind) : KX (.int i) (Value.int i) (X.i i) := ⟨keyInt i, fun a b => by simp [keyEq], fun e a => rfl⟩
theorem keyS_all (b : ByteArray) : (b.data.toList.map UInt8.toNat).all (fun n => Nat.blt n 256) = true := by
  rw [List.all_eq_true]
  intro n hn
  obtain ⟨b, _, rfl⟩ := List.mem_map.1 hn
  exact bltT.2 b.toNat_lt
theorem keyS_den (e : Env) (b : ByteArray) : den e (keyS b) = some (.string b) := by
  unfold keyS; rw [den_s' (keyS_all b), str_of]
theorem kx_str : KX .string Value.string keyS := by
  refine ⟨keyStr, fun a b => ?_, keyS_den⟩
  simp only [keyS, keyEq, Option.some.injEq]
  rw [Bool.eq_iff_iff, sameS_iff, decide_eq_true_iff]
  refine ⟨fun h => ?_, fun h => by rw [h]⟩
  have := (str_inj (keyS_all a) (keyS_all b)).2 h
  rwa [str_of, str_of] at this
theorem keyS_of {l : List Nat} (h : l.all (fun n => Nat.blt n 256) = true) : keyS (str l) = .s l := by
  unfold keyS
  congr 1
  have h1 := keyS_all (str l)
  exact (str_inj h1 h).1 (str_of _)
theorem mgetX_run {α : Type} [DecidableEq α] {kind : TypeDesc} {k : α → Value} {kx : α → X} (hk : KX kind k kx) {e : Env} {a : α} : ∀ {es : List (X × X)} {l : List (α × Value)} {r : Option X}, EntsAre e kx es l → mgetX es (kx a) = some r →
    (r = none ∧ mget l a = none) ∨ ∃ x v, r = some x ∧ den e x = some v ∧ mget l a = some v
  | [], l, r, he, h => by
    simp only [EntsAre] at he
    subst he
    simp only [mgetX, Option.some.injEq] at h
    subst h
    exact .inl ⟨rfl, rfl⟩
  | (kk, v) :: es, l, r, he, h => by
    obtain ⟨b, u, l', rfl, h2, rfl, h4⟩ := he
    simp only [mgetX, hk.eq] at h
    by_cases e1 : b = a
    · subst e1
      simp only [decide_true, Option.some.injEq] at h
      subst h
      exact .inr ⟨v, u, rfl, h2, by simp [mget]⟩
    · rw [decide_eq_false e1] at h
      simp only [mget, if_neg e1]
      exact mgetX_run hk h4 h
theorem keyD_cases {d : TypeDesc} {x : X} (h : keyD d x = true) : (∃ ik n, d = .int ik ∧ x = .i ik n) ∨ ∃ l, d = .string ∧ x = .s l := by
  unfold keyD at h
  split at h
  · have := of_decide_eq_true h
    subst this
    exact .inl ⟨_, _, rfl, rfl⟩
  · exact .inr ⟨_, rfl, rfl⟩
  · cases h
/-- A known map, as the world holds it, for keys of a kind. -/
theorem Fit.map {B : World} {e : Env} {hp : Hp} {U : Nat → Prop} {w : World} (hf : Fit B e hp U w) {id : Nat} {es : List (X × X)} {it : Option ItX} {z : EE} (hb : find hp id = some (.m es it)) (he : e id = some z) :
    ∃ real clock, w.heap[z.b]? = some (.map real clock) ∧ ((∃ ik, MapAre e w z.b (Value.int ik) (X.i ik) es it real clock) ∨ MapAre e w z.b Value.string keyS es it real clock) := by
  obtain ⟨o, h1, real, clock, h2, h3⟩ := hf.obj id _ z hb he
  subst h2
  exact ⟨real, clock, h1, h3⟩
theorem ents_nil_or {α β : Type} {e : Env} {kx : α → X} {ky : β → X} (hne : ∀ a b, kx a ≠ ky b) {es : List (X × X)} {l : List (α × Value)} {m : List (β × Value)} (h : EntsAre e kx es l) (h' : EntsAre e ky es m) : es = [] := by
  cases es with
  | nil => rfl
  | cons p r =>
    obtain ⟨a, u, l', h1, _⟩ := h
    obtain ⟨b, v, m', h2, _⟩ := h'
    exact absurd (h1.symm.trans h2) (hne a b)
theorem lookup_run {P : Program} {α : Type} [DecidableEq α] {kind : TypeDesc} {k : α → Value} (hk : KeyOk kind k) {t kt et : TypeId} {u D : TD} {ck : Bool} {w : World} {mv : Value} {es : Array MapEntry} {l : List (α × Value)} {a : α} (ht : ty P t = some u) (hu : u.d = .map kt et) (hkt : P.underlying kt = some kind) (hD : ty P et = some D)
    (hm : (mv = .map none ∧ es = #[]) ∨ ∃ b c, mv = .map (some b) ∧ w.heap[b]? = some (.map es c)) (hes : MapAs k es l) :
    (Instr.lookup t mv (k a) ck).run P w = .ok (if ck then .tuple #[(mget l a).getD D.zero, .bool (mget l a).isSome] else (mget l a).getD D.zero) w := by
  have hmap : P.underlying t = some (.map kt et) := by have h2 := (ty_some ht).1; rw [hu] at h2; exact h2
  have hc := MapKept.run_checkKey (w := w) hkt (hk.key a) es.isEmpty 9999
  rcases hm with ⟨rfl, rfl⟩ | ⟨b, c, rfl, hb⟩
  · simp only [Instr.lookup, Sem.run_bind, run_underlying hmap, Result.andThen_ok, Sem.run_pure, hc]
    rcases find_as hk a (#[] : Array MapEntry).toList l 0 hes with ⟨g1, g2, _⟩ | ⟨j, v, e, g1, g2, _⟩
    · rw [MapKept.run_findKey hkt g2, g1]
      simp only [Result.andThen_ok, Sem.run_bind, ty_zero hD, Sem.run_pure, Option.getD_none, Option.isSome_none]
    · rw [MapKept.run_findKey hkt g2, g1]
      simp only [Result.andThen_ok, Sem.run_pure, Option.getD_some, Option.isSome_some]
      cases ck <;> rfl
  · have hg := MapKept.run_getObj_map (P := P) hb
    simp only [Instr.lookup, Sem.run_bind, run_underlying hmap, Result.andThen_ok, hg, Sem.run_pure, hc]
    rcases find_as hk a es.toList l 0 hes with ⟨g1, g2, _⟩ | ⟨j, v, e, g1, g2, _⟩
    · rw [MapKept.run_findKey hkt g2, g1]
      simp only [Result.andThen_ok, Sem.run_bind, ty_zero hD, Sem.run_pure, Option.getD_none, Option.isSome_none]
    · rw [MapKept.run_findKey hkt g2, g1]
      simp only [Result.andThen_ok, Sem.run_pure, Option.getD_some, Option.isSome_some]
      cases ck <;> rfl
theorem lkX_run {P : Program} {τ : Ty} (hτ : TyOk P τ) {B : World} {e : Env} {hp : Hp} {U : Nat → Prop} {n : Nat} {fr : Tr X} {dm : List Nat} {a : Act} {w : World} (hk : KnX e n fr dm a) (hf : Fit B e hp U w) {t : TypeId} {x i : Operand} {ok : Bool} {y : X} (h : lkX τ fr hp t x i ok = some y) :
    ∃ v, den e y = some v ∧ (Instr.lookup t (a.eval x) (a.eval i) ok).run P w = .ok v w := by
  unfold lkX at h
  split at h
  · rename_i kt et _ _ _ mx kx ht hx hi
    obtain ⟨vm, m1, m2⟩ := ev_run hk hx
    obtain ⟨vk, k1, k2⟩ := ev_run hk hi
    split at h
    · rename_i KD D hKD hD
      split at h
      · rename_i es z hes hz hkd
        have fin : ∀ {α : Type} [DecidableEq α] {k : α → Value} {kxf : α → X} (hK : KX KD.d k kxf) (b : α), kx = kxf b → ∀ (real : Array MapEntry) (l l2 : List (α × Value)), ((vm = .map none ∧ real = #[]) ∨ ∃ g c, vm = .map (some g) ∧ w.heap[g]? = some (.map real c)) →
            MapAs k real l → l.Perm l2 → (l2.map (·.1)).Nodup → EntsAre e kxf es l2 → ∃ v, den e y = some v ∧ (Instr.lookup t (a.eval x) (a.eval i) ok).run P w = .ok v w := by
          intro α _ k kxf hK b hkx real l l2 hreal h1 h2 h3 h4
          subst hkx
          rw [hK.den] at k1
          cases k1
          rw [m2, k2]
          have hr := lookup_run (P := P) (ck := ok) (a := b) hK.ok (hτ _ _ ht) rfl (by rw [(ty_some (hτ _ _ hKD)).1]) (hτ _ _ hD) hreal h1
          rw [mget_perm h2 h3] at hr
          split at h
          · rename_i v hv
            rcases mgetX_run hK h4 hv with ⟨h5, _⟩ | ⟨x', u, h5, h6, h7⟩
            · cases h5
            · cases h5
              rw [h7] at hr
              cases ok with
              | true => cases h; exact ⟨_, by simp only [den, denL, h6]; rfl, hr⟩
              | false => cases h; exact ⟨_, h6, hr⟩
          · rename_i hv
            rcases mgetX_run hK h4 hv with ⟨_, h7⟩ | ⟨x', u, h5, _⟩
            · rw [h7] at hr
              have hz' := xof_den hz e
              cases ok with
              | true => cases h; exact ⟨_, by simp only [den, denL, hz']; rfl, hr⟩
              | false => cases h; exact ⟨_, hz', hr⟩
            · cases h5
          · cases h
        -- the map's own keys and the key asked
        have both : ∀ {α : Type} [DecidableEq α] {k : α → Value} {kxf : α → X} (hK : KX KD.d k kxf) (b : α), kx = kxf b → (∀ real clock g z0, MapAre e w g k kxf es z0 real clock → vm = .map (some g) → w.heap[g]? = some (.map real clock) → ∃ v, den e y = some v ∧ (Instr.lookup t (a.eval x) (a.eval i) ok).run P w = .ok v w) := by
          intro α _ k kxf hK b hkx real clock g z0 hm hvm hg
          obtain ⟨l, l2, h1, h2, h3, h4, _⟩ := hm
          exact fin hK b hkx real l l2 (.inr ⟨g, clock, hvm, hg⟩) h1 h2 h3 h4
        have empty : ∀ {α : Type} [DecidableEq α] {k : α → Value} {kxf : α → X} (hK : KX KD.d k kxf) (b : α), kx = kxf b → ∀ real, real = #[] → es = [] → ((vm = .map none ∧ real = #[]) ∨ ∃ g c, vm = .map (some g) ∧ w.heap[g]? = some (.map real c)) → ∃ v, den e y = some v ∧ (Instr.lookup t (a.eval x) (a.eval i) ok).run P w = .ok v w := by
          intro α _ k kxf hK b hkx real h1 h2 h3
          subst h1; subst h2
          exact fin hK b hkx _ [] [] h3 rfl (.refl _) (by simp) rfl
        have emp : ∀ {α : Type} [DecidableEq α] {k : α → Value} {kxf : α → X} {z0 : Option ItX} {real : Array MapEntry} {clock g : Nat}, MapAre e w g k kxf [] z0 real clock → real = #[] := by
          intro α _ k kxf z0 real clock g hm
          obtain ⟨l, l2, h1, h2, h3, h4, _⟩ := hm
          simp only [EntsAre] at h4
          subst h4
          have := h2.eq_nil
          subst this
          unfold MapAs at h1
          simpa using h1
        have hid : ∀ {d : TypeDesc}, KD.d = d → ∀ {α : Type} [DecidableEq α] {k : α → Value} {kxf : α → X}, KX d k kxf → KX KD.d k kxf := by
          intro d h; subst h; exact fun h => h
        unfold mapX at hes
        split at hes
        · cases hes
          simp only [den, Option.some.injEq] at m1
          subst m1
          rcases keyD_cases hkd with ⟨ik, m, hd, rfl⟩ | ⟨ls, hd, rfl⟩
          · exact empty (hid hd (kx_int ik)) m rfl #[] rfl rfl (.inl ⟨rfl, rfl⟩)
          · obtain ⟨ha, _⟩ := den_s k1
            exact empty (hid hd kx_str) (str ls) (keyS_of ha).symm #[] rfl rfl (.inl ⟨rfl, rfl⟩)
        · split at hes
          · rename_i hb
            cases hes
            obtain ⟨zz, hzz, rfl⟩ := den_m m1
            obtain ⟨real, clock, hg, hm⟩ := hf.map hb hzz
            rcases keyD_cases hkd with ⟨ik, m, hd, rfl⟩ | ⟨ls, hd, rfl⟩
            · rcases hm with ⟨ik', hm⟩ | hm
              · by_cases hik : ik' = ik
                · subst hik; exact both (hid hd (kx_int _)) m rfl real clock _ _ hm rfl hg
                · cases es with
                  | nil => exact empty (hid hd (kx_int ik)) m rfl real (emp hm) rfl (.inr ⟨_, _, rfl, hg⟩)
                  | cons p r =>
                    obtain ⟨_, _, _, _, _, ⟨b, u, l', h1, _⟩, _⟩ := hm
                    obtain ⟨p1, p2⟩ := p
                    subst h1
                    simp only [mgetX, keyEq, if_neg hik] at h
                    cases h
              · cases es with
                | nil => exact empty (hid hd (kx_int ik)) m rfl real (emp hm) rfl (.inr ⟨_, _, rfl, hg⟩)
                | cons p r =>
                  obtain ⟨_, _, _, _, _, ⟨b, u, l', h1, _⟩, _⟩ := hm
                  obtain ⟨p1, p2⟩ := p
                  subst h1
                  simp only [mgetX, keyS, keyEq] at h
                  cases h
            · obtain ⟨ha, _⟩ := den_s k1
              rcases hm with ⟨ik', hm⟩ | hm
              · cases es with
                | nil => exact empty (hid hd kx_str) (str ls) (keyS_of ha).symm real (emp hm) rfl (.inr ⟨_, _, rfl, hg⟩)
                | cons p r =>
                  obtain ⟨_, _, _, _, _, ⟨b, u, l', h1, _⟩, _⟩ := hm
                  obtain ⟨p1, p2⟩ := p
                  subst h1
                  simp only [mgetX, keyEq] at h
                  cases h
              · exact both (hid hd kx_str) (str ls) (keyS_of ha).symm real clock _ _ hm rfl hg
          · cases hes
        · cases hes
      · cases h
    · cases h
  · cases h
theorem aqq_run {P : Program} {τ : Ty} (hτ : TyOk P τ) {B : World} {e : Env} {hp : Hp} {U : Nat → Prop} {n : Nat} {fr : Tr X} {dm : List Nat} {a : Act} {w : World} (hk : KnX e n fr dm a) (hf : Fit B e hp U w) {o : Oper} {y : X} (h : aqq P τ fr hp o.op = some y) :
    ∃ v, den e y = some v ∧ (execOp a.eval o).run P w = .ok (.value v) w := by
  unfold aqq at h
  split at h
  · rename_i hop
    obtain ⟨v, h1, h2⟩ := lkX_run hτ hk hf h
    obtain ⟨dst, op, type, pos, after, guard⟩ := o
    simp only at hop
    subst hop
    exact ⟨v, h1, run_value rfl h2⟩
  · exact aq_run hτ hk hf h
end Go.AM
