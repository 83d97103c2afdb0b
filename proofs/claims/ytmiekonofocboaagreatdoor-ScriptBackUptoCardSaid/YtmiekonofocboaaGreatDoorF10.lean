/- The evaluator, part 10: maps: made, put, deleted from, ranged over. -/
import Derived.Test.YtmiekonofocboaaGreatDoorF9
import Derived.Maps.RangeRun
set_option linter.unusedVariables false
set_option linter.unusedSectionVars false
set_option linter.unusedSimpArgs false
namespace Go.AM
open Go Go.RowKit Go.Eng
open Go.ChangeMaps (setBlock)
section
variable {α : Type} [DecidableEq α]
/-- What it is to put a value at a key: who is in the list then. -/
def InsRel (l : List (α × Value)) (a : α) (v : Value) (m : List (α × Value)) : Prop := (∀ p, p ∈ m ↔ p = (a, v) ∨ (p.1 ≠ a ∧ p ∈ l)) ∧ (m.map (·.1)).Nodup
theorem nodup_of_keys {l : List (α × Value)} (h : (l.map (·.1)).Nodup) : l.Nodup := List.Pairwise.imp (fun h e => h (by rw [e])) (List.pairwise_map.1 h)
theorem ins_perm {l l2 m m2 : List (α × Value)} {a : α} {v : Value} (h : InsRel l a v m) (h2 : InsRel l2 a v m2) (hp : l.Perm l2) : m.Perm m2 :=
  (List.perm_ext_iff_of_nodup (nodup_of_keys h.2) (nodup_of_keys h2.2)).2 fun p => by rw [h.1, h2.1, hp.mem_iff]
theorem mput_ins : ∀ {l : List (α × Value)} (a : α) (v : Value), (l.map (·.1)).Nodup → InsRel l a v (mput l a v)
  | [], a, v, _ => ⟨fun p => by simp [mput], by simp [mput]⟩
  | q :: l, a, v, hn => by
    rw [List.map_cons, List.nodup_cons] at hn
    obtain ⟨i1, i2⟩ := mput_ins (l := l) a v hn.2
    simp only [mput]
    split
    · rename_i hq
      subst hq
      refine ⟨fun p => ?_, by rw [List.map_cons, List.nodup_cons]; exact hn⟩
      constructor
      · intro h
        rcases List.mem_cons.1 h with h | h
        · exact .inl h
        · exact .inr ⟨fun e => hn.1 (by rw [← e]; exact List.mem_map_of_mem (f := (·.1)) h), List.mem_cons_of_mem _ h⟩
      · rintro (h | ⟨h1, h2⟩)
        · exact h ▸ List.mem_cons_self
        · rcases List.mem_cons.1 h2 with h2 | h2
          · exact absurd (by rw [h2]) h1
          · exact List.mem_cons_of_mem _ h2
    · rename_i hq
      refine ⟨fun p => ?_, ?_⟩
      · rw [List.mem_cons, i1, List.mem_cons]
        constructor
        · rintro (h | h | ⟨h1, h2⟩)
          · exact .inr ⟨by rw [h]; exact hq, .inl h⟩
          · exact .inl h
          · exact .inr ⟨h1, .inr h2⟩
        · rintro (h | ⟨h1, h2 | h2⟩)
          · exact .inr (.inl h)
          · exact .inl h2
          · exact .inr (.inr ⟨h1, h2⟩)
      · rw [List.map_cons, List.nodup_cons]
        refine ⟨fun hm => ?_, i2⟩
        obtain ⟨p, hp, e⟩ := List.mem_map.1 hm
        rcases (i1 p).1 hp with h | ⟨_, h⟩
        · rw [h] at e; exact hq e.symm
        · exact hn.1 (by rw [← e]; exact List.mem_map_of_mem (f := (·.1)) h)
variable {e : Env} {kind : TypeDesc} {k : α → Value} {kx : α → X}
def keyLt : X → X → Bool
  | .i _ a, .i _ b => decide (a < b)
  | .s a, .s b => decide (a < b)
  | _, _ => false
/-- A value is put at a key; keys that are in order stay so. -/
def minsX : List (X × X) → X → X → Option (List (X × X))
  | [], k, v => some [(k, v)]
  | (k', v') :: r, k, v => (match keyEq k' k with
    | some true => some ((k, v) :: r)
    | some false => (match keyLt k k' with
      | true => (match mgetX r k with
        | some none => some ((k, v) :: (k', v') :: r)
        | _ => none)
      | false => (match minsX r k v with
        | some r' => some ((k', v') :: r')
        | none => none))
    | none => none)
theorem ents_mem {x : List (X × X)} : ∀ {l : List (α × Value)}, EntsAre e kx x l → x.length = l.length := by
  induction x with
  | nil => intro l h; simp only [EntsAre] at h; subst h; rfl
  | cons p r ih => intro l h; obtain ⟨p1, p2⟩ := p; obtain ⟨a, u, l', _, _, rfl, h4⟩ := h; simp [ih h4]
theorem mgetX_none (hk : KX kind k kx) {a : α} : ∀ {es : List (X × X)} {l : List (α × Value)}, EntsAre e kx es l → mgetX es (kx a) = some none → ∀ p ∈ l, p.1 ≠ a
  | [], l, he, _, p, hp => by simp only [EntsAre] at he; subst he; cases hp
  | (kk, v) :: es, l, he, h, p, hp => by
    obtain ⟨b, u, l', rfl, h2, rfl, h4⟩ := he
    simp only [mgetX, hk.eq] at h
    by_cases e1 : b = a
    · subst e1; simp at h
    · rw [decide_eq_false e1] at h
      rcases List.mem_cons.1 hp with rfl | hp
      · exact e1
      · exact mgetX_none hk h4 h p hp
theorem minsX_run (hk : KX kind k kx) {a : α} {vx : X} {v : Value} (hv : den e vx = some v) : ∀ {es es' : List (X × X)} {l : List (α × Value)}, EntsAre e kx es l → (l.map (·.1)).Nodup → minsX es (kx a) vx = some es' → ∃ m, EntsAre e kx es' m ∧ InsRel l a v m
  | [], es', l, he, hn, h => by
    simp only [EntsAre] at he
    subst he
    simp only [minsX, Option.some.injEq] at h
    subst h
    exact ⟨[(a, v)], ⟨a, v, [], rfl, hv, rfl, rfl⟩, fun p => by simp, by simp⟩
  | (kk, vv) :: es, es', l, he, hn, h => by
    have he' := he
    obtain ⟨b, u, l', rfl, h2, rfl, h4⟩ := he
    have hn' := hn
    rw [List.map_cons, List.nodup_cons] at hn
    simp only [minsX, hk.eq] at h
    by_cases e1 : b = a
    · subst e1
      simp only [decide_true, Option.some.injEq] at h
      subst h
      have := mput_ins (l := (b, u) :: l') b v hn'
      simp only [mput, if_true] at this
      exact ⟨(b, v) :: l', ⟨b, v, l', rfl, hv, rfl, h4⟩, this⟩
    · rw [decide_eq_false e1] at h
      simp only at h
      split at h
      · split at h
        · rename_i hg
          cases h
          have hno := mgetX_none hk h4 hg
          refine ⟨(a, v) :: (b, u) :: l', ⟨a, v, _, rfl, hv, rfl, he'⟩, fun p => ?_, ?_⟩
          · rw [List.mem_cons]
            constructor
            · rintro (h | h)
              · exact .inl h
              · refine .inr ⟨?_, h⟩
                rcases List.mem_cons.1 h with h | h
                · rw [h]; exact e1
                · exact hno p h
            · rintro (h | ⟨_, h⟩)
              · exact .inl h
              · exact .inr h
          · rw [List.map_cons, List.nodup_cons]
            refine ⟨fun hm => ?_, hn'⟩
            obtain ⟨p, hp, e2⟩ := List.mem_map.1 hm
            rcases List.mem_cons.1 hp with hp | hp
            · rw [hp] at e2; exact e1 e2
            · exact hno p hp e2
        · cases h
      · split at h
        · rename_i r' hr
          cases h
          obtain ⟨m, i1, i2, i3⟩ := minsX_run hk hv h4 hn.2 hr
          refine ⟨(b, u) :: m, ⟨b, u, m, rfl, h2, rfl, i1⟩, fun p => ?_, ?_⟩
          · rw [List.mem_cons, i2, List.mem_cons]
            constructor
            · rintro (h | h | ⟨h1, h2⟩)
              · exact .inr ⟨by rw [h]; exact e1, .inl h⟩
              · exact .inl h
              · exact .inr ⟨h1, .inr h2⟩
            · rintro (h | ⟨h1, h2 | h2⟩)
              · exact .inr (.inl h)
              · exact .inl h2
              · exact .inr (.inr ⟨h1, h2⟩)
          · rw [List.map_cons, List.nodup_cons]
            refine ⟨fun hm => ?_, i3⟩
            obtain ⟨p, hp, e2⟩ := List.mem_map.1 hm
            rcases (i2 p).1 hp with hp | ⟨_, hp⟩
            · rw [hp] at e2; exact e1 e2.symm
            · exact hn.1 (by rw [← e2]; exact List.mem_map_of_mem (f := (·.1)) hp)
        · cases h
/-- A key is taken out. -/
def mdelX : List (X × X) → X → Option (List (X × X))
  | [], _ => some []
  | (k', v') :: r, k => (match keyEq k' k, mdelX r k with
    | some true, some r' => some r'
    | some false, some r' => some ((k', v') :: r')
    | _, _ => none)
theorem mdelX_run (hk : KX kind k kx) {a : α} : ∀ {es es' : List (X × X)} {l : List (α × Value)}, EntsAre e kx es l → mdelX es (kx a) = some es' → EntsAre e kx es' (l.filter fun p => decide (p.1 ≠ a))
  | [], es', l, he, h => by
    simp only [EntsAre] at he
    subst he
    simp only [mdelX, Option.some.injEq] at h
    subst h
    rfl
  | (kk, vv) :: es, es', l, he, h => by
    obtain ⟨b, u, l', rfl, h2, rfl, h4⟩ := he
    simp only [mdelX, hk.eq] at h
    split at h
    · rename_i e1 hr
      cases h
      have e1 : b = a := by simpa using e1
      rw [List.filter_cons, if_neg (by simp [e1])]
      exact mdelX_run hk h4 hr
    · rename_i e1 hr
      cases h
      have e1 : ¬ b = a := by simpa using e1
      rw [List.filter_cons, if_pos (by simp [e1])]
      exact ⟨b, u, _, rfl, h2, rfl, mdelX_run hk h4 hr⟩
    · cases h
end
section
variable {P : Program} {ro : Option Nat} {B : World} {e : Env} {U : Nat → Prop} {i nx : Nat} {o : Oper} {a : Act} {w : World} {hp : Hp} {fr : Tr X} {dm : List DM} {n : Nat} {τ : Ty}
def aMakeMap (hp : Hp) (i nx : Nat) : Option Outs := outc (.m i) nx (put 40 hp i (some (.m [] none)))
theorem aMakeMap_ok (hf : Fit B e hp U w) (hi : ¬ U i) {t : TypeId} (ho : o.op = .makeMap t none) {outs : Outs} (h : aMakeMap hp i nx = some outs) : EffOk P ro B e U i nx o a w outs := by
  refine .fresh (by rw [ho]; simp) hf hi (z := ⟨w.heap.size, 0, 0, 0, none, undef⟩) (v := .map (some w.heap.size)) (w' := w.alloc (.map #[] 0)) (bl := .m [] none) rfl ?_ (step_alloc _ _) (alloc_new _ _) ⟨#[], 0, rfl, .inr ⟨[], [], rfl, .refl _, by simp, rfl, stamped_nil, fun q h => nomatch h⟩⟩ (by simp only [den, Env.add_self]) h
  obtain ⟨dst, op, type, pos, after, guard⟩ := o
  subst ho
  exact run_value' (by rfl) (run_makeMap (P := P) t w)
/-- The keys of a map and a key asked are of one kind. -/
theorem map_kind {es : List (X × X)} {it : Option ItX} {real : Array MapEntry} {clock b : Nat} {kd : TypeDesc} {kxv : X} {Q : Prop} (hm : (∃ ik, MapAre e w b (Value.int ik) (X.i ik) es it real clock) ∨ MapAre e w b Value.string keyS es it real clock) (hkd : keyD kd kxv = true) {vk : Value} (hvk : den e kxv = some vk)
    (hne : es = [] ∨ ∃ p ∈ es, keyEq p.1 kxv ≠ none) (hit : es = [] → it = none)
    (h : ∀ {α : Type} [DecidableEq α] {k : α → Value} {kx : α → X} (a : α), KX kd k kx → kxv = kx a → vk = k a → MapAre e w b k kx es it real clock → (∀ {es' : List (X × X)} {real' : Array MapEntry} {clock' : Nat} {e' : Env} {w' : World} {it' : Option ItX}, MapAre e' w' b k kx es' it' real' clock' → (∃ ik, MapAre e' w' b (Value.int ik) (X.i ik) es' it' real' clock') ∨ MapAre e' w' b Value.string keyS es' it' real' clock') → Q) : Q := by
  have emp : ∀ {α β : Type} [DecidableEq α] [DecidableEq β] {k : α → Value} {kx : α → X} {k2 : β → Value} {kx2 : β → X}, es = [] → MapAre e w b k kx es it real clock → MapAre e w b k2 kx2 es it real clock := by
    intro α β _ _ k kx k2 kx2 he hm
    have hit2 := hit he
    subst he; subst hit2
    obtain ⟨l, l2, h1, h2, h3, h4, h5, h6⟩ := hm
    simp only [EntsAre] at h4
    subst h4
    have := h2.eq_nil
    subst this
    unfold MapAs at h1
    have hr : real = #[] := by simpa using h1
    subst hr
    exact ⟨[], [], rfl, .refl _, by simp, rfl, h5, fun q h => nomatch h⟩
  rcases keyD_cases hkd with ⟨ik, m, rfl, rfl⟩ | ⟨ls, rfl, rfl⟩
  · simp only [den, Option.some.injEq] at hvk
    refine h m (kx_int ik) rfl hvk.symm ?_ fun hm' => .inl ⟨ik, hm'⟩
    rcases hne with he | ⟨p, hp, hpk⟩
    · rcases hm with ⟨ik', hm⟩ | hm
      · exact emp he hm
      · exact emp he hm
    · rcases hm with ⟨ik', hm⟩ | hm
      · by_cases hik : ik' = ik
        · subst hik; exact hm
        · exfalso
          obtain ⟨_, l2, _, _, _, h4, _⟩ := hm
          have : ∀ {x : List (X × X)} {l : List (Int × Value)}, EntsAre e (X.i ik') x l → ∀ p ∈ x, ∃ a, p.1 = X.i ik' a := by
            intro x
            induction x with
            | nil => intro l _ p hp; cases hp
            | cons q r ih =>
              intro l hl p hp
              obtain ⟨q1, q2⟩ := q
              obtain ⟨a, u, l', h1, _, _, h4⟩ := hl
              rcases List.mem_cons.1 hp with rfl | hp
              · exact ⟨a, h1⟩
              · exact ih h4 p hp
          obtain ⟨a, ha⟩ := this h4 p hp
          rw [ha] at hpk
          simp [keyEq, hik] at hpk
      · exfalso
        obtain ⟨_, l2, _, _, _, h4, _⟩ := hm
        have : ∀ {x : List (X × X)} {l : List (ByteArray × Value)}, EntsAre e keyS x l → ∀ p ∈ x, ∃ a, p.1 = keyS a := by
          intro x
          induction x with
          | nil => intro l _ p hp; cases hp
          | cons q r ih =>
            intro l hl p hp
            obtain ⟨q1, q2⟩ := q
            obtain ⟨a, u, l', h1, _, _, h4⟩ := hl
            rcases List.mem_cons.1 hp with rfl | hp
            · exact ⟨a, h1⟩
            · exact ih h4 p hp
        obtain ⟨a, ha⟩ := this h4 p hp
        rw [ha] at hpk
        simp [keyEq, keyS] at hpk
  · obtain ⟨ha, rfl⟩ := den_s hvk
    refine h (str ls) kx_str (keyS_of ha).symm rfl ?_ fun hm' => .inr hm'
    rcases hne with he | ⟨p, hp, hpk⟩
    · rcases hm with ⟨ik', hm⟩ | hm
      · exact emp he hm
      · exact emp he hm
    · rcases hm with ⟨ik', hm⟩ | hm
      · exfalso
        obtain ⟨_, l2, _, _, _, h4, _⟩ := hm
        have : ∀ {x : List (X × X)} {l : List (Int × Value)}, EntsAre e (X.i ik') x l → ∀ p ∈ x, ∃ a, p.1 = X.i ik' a := by
          intro x
          induction x with
          | nil => intro l _ p hp; cases hp
          | cons q r ih =>
            intro l hl p hp
            obtain ⟨q1, q2⟩ := q
            obtain ⟨a, u, l', h1, _, _, h4⟩ := hl
            rcases List.mem_cons.1 hp with rfl | hp
            · exact ⟨a, h1⟩
            · exact ih h4 p hp
        obtain ⟨a, ha⟩ := this h4 p hp
        rw [ha] at hpk
        simp [keyEq] at hpk
      · exact hm
theorem minsX_ne : ∀ {es es' : List (X × X)} {k v : X}, minsX es k v = some es' → es = [] ∨ ∃ p ∈ es, keyEq p.1 k ≠ none
  | [], _, _, _, _ => .inl rfl
  | (k', v') :: r, es', k, v, h => by
    refine .inr ⟨_, List.mem_cons_self, fun e1 => ?_⟩
    simp only [minsX, e1] at h
    cases h
theorem mdelX_ne : ∀ {es es' : List (X × X)} {k : X}, mdelX es k = some es' → es = [] ∨ ∃ p ∈ es, keyEq p.1 k ≠ none
  | [], _, _, _ => .inl rfl
  | (k', v') :: r, es', k, h => by
    refine .inr ⟨_, List.mem_cons_self, fun e1 => ?_⟩
    simp only [mdelX, e1] at h
    cases h
/-- Iterators over a map are let go. -/
theorem MapAre.let_go {b : Nat} {α : Type} [DecidableEq α] {k : α → Value} {kx : α → X} {es : List (X × X)} {it : Option ItX} {real : Array MapEntry} {clock : Nat} (h : MapAre e w b k kx es it real clock) : MapAre e w b k kx es none real clock := by
  obtain ⟨l, l2, h1, h2, h3, h4, h5, h6⟩ := h
  exact ⟨l, l2, h1, h2, h3, h4, h5, fun q h => nomatch h⟩
def aUpdate (τ : Ty) (fr : Tr X) (hp : Hp) (nx : Nat) (t : TypeId) (m k v : Operand) : Option Outs :=
  match find τ t, ev fr m, ev fr k, ev fr v with
  | some ⟨.map kt _, _, _, _⟩, some (.m id), some kx, some vx => (match find τ kt, find hp id with
    | some KD, some (.m es _) => (match keyD KD.d kx, minsX es kx vx with
      | true, some es' => outc undX nx (put 40 hp id (some (.m es' none)))
      | _, _ => none)
    | _, _ => none)
  | _, _, _, _ => none
theorem aUpdate_ok (hτ : TyOk P τ) (hk : KnX e n fr dm a) (hf : Fit B e hp U w) {t : TypeId} {m k v : Operand} (ho : o.op = .mapUpdate t m k v) {outs : Outs} (h : aUpdate τ fr hp nx t m k v = some outs) : EffOk P ro B e U i nx o a w outs := by
  unfold aUpdate at h
  split at h
  · rename_i kt et _ _ _ id kx vx ht hm hkk hv
    obtain ⟨vm, m1, m2⟩ := ev_run hk hm
    obtain ⟨vk, k1, k2⟩ := ev_run hk hkk
    obtain ⟨vv, v1, v2⟩ := ev_run hk hv
    obtain ⟨z, hz, rfl⟩ := den_m m1
    split at h
    · rename_i KD es it hKD hb
      split at h
      · rename_i es' hkd hes'
        obtain ⟨hp', p1, p2⟩ := outc_some h
        obtain ⟨real, clock, hg, hmap⟩ := hf.map hb hz
        refine map_kind (hmap.imp (fun ⟨ik, h⟩ => ⟨ik, h.let_go⟩) MapAre.let_go) hkd k1 (minsX_ne hes') (fun _ => rfl) ?_
        intro α _ kf kxf ak hK hkx hvk hma hback
        subst hkx
        subst hvk
        obtain ⟨l, l2, h1, h2, h3, h4, h5, _⟩ := hma
        obtain ⟨l3, i1, i2⟩ := minsX_run hK v1 h4 h3 hes'
        have hmapt : P.underlying t = some (.map kt et) := by rw [(ty_some (hτ _ _ ht)).1]
        have hkt : P.underlying kt = some KD.d := (ty_some (hτ _ _ hKD)).1
        have hc := MapKept.run_checkKey (w := w) hkt (hK.ok.key ak) false 9999
        have hgo := MapKept.run_getObj_map (P := P) hg
        have hn1 : (l.map (·.1)).Nodup := (h2.map (·.1)).nodup_iff.2 h3
        have hkey : ∃ es' c', (MapAs kf es' (mput l ak vv) ∧ Stamped es' c') ∧ (Instr.mapUpdate t (.map (some z.b)) (kf ak) vv).run P w = .ok () { w with heap := w.heap.setIfInBounds z.b (.map es' c') } := by
          rcases find_as hK.ok ak real.toList l 0 h1 with ⟨g1, g2, g3⟩ | ⟨j, v0, en, g1, g2, g3, g4, g5⟩
          · refine ⟨real.push { key := kf ak, val := vv, born := clock }, clock + 1, ⟨?_, fun x hx => ?_, ?_⟩, ?_⟩
            · unfold MapAs at h1 ⊢
              rw [g3, Array.toList_push, List.map_append, List.map_append, h1]
              rfl
            · rw [Array.toList_push] at hx
              rcases List.mem_append.1 hx with hx | hx
              · exact Nat.lt_succ_of_lt (h5.1 x hx)
              · obtain rfl := List.mem_singleton.1 hx
                exact Nat.lt_succ_self _
            · rw [Array.toList_push, List.map_append]
              refine List.nodup_append.2 ⟨h5.2, by simp, fun y hy z hz => ?_⟩
              obtain ⟨x, hx, rfl⟩ := List.mem_map.1 hy
              have := h5.1 x hx
              simp at hz
              omega
            · simp only [Instr.mapUpdate, Sem.run_bind, run_underlying hmapt, Result.andThen_ok, hgo, hc, MapKept.run_findKey hkt g2, MapKept.run_setObj_map _ hg]
          · have hborn : (real.toList.modify j (fun e => { e with key := kf ak, val := vv })).map (·.born) = real.toList.map (·.born) := mapModify_born (fun _ => rfl)
            refine ⟨real.modify j (fun e => { e with key := kf ak, val := vv }), clock, ⟨?_, fun x hx => ?_, ?_⟩, ?_⟩
            · unfold MapAs
              rw [Array.toList_modify]
              exact g5 vv
            · have hx' : x.born ∈ (real.modify j (fun e => { e with key := kf ak, val := vv })).toList.map (·.born) := List.mem_map.2 ⟨x, hx, rfl⟩
              rw [Array.toList_modify, hborn] at hx'
              obtain ⟨y, hy, e1⟩ := List.mem_map.1 hx'
              rw [← e1]; exact h5.1 y hy
            · rw [Array.toList_modify, hborn]; exact h5.2
            · have hge : real[0 + j]? = some en := by rw [Nat.zero_add, ← Array.getElem?_toList]; exact g3
              simp only [Instr.mapUpdate, Sem.run_bind, run_underlying hmapt, Result.andThen_ok, hgo, hc, MapKept.run_findKey hkt g2]
              rw [hge]
              simp only [Option.map_some, Option.getD_some, g4, Instr.keyThatStays, hK.ok.bits ak, if_true, Sem.run_pure, Result.andThen_ok, MapKept.run_setObj_map _ hg, Nat.zero_add]
        obtain ⟨real', clock', ⟨q1, q2⟩, q3⟩ := hkey
        have hfit := hf.set hb hz rfl (fun m s r c hh => by rw [hg] at hh; cases hh) (step_setObj w z.b (.map real' clock')) (setObj_same (heap_lt hg))
          (bl' := .m es' none) ⟨real', clock', rfl, hback ⟨_, l3, q1, ins_perm (mput_ins ak vv hn1) i2 h2, i2.2, i1, q2, fun q h => nomatch h⟩⟩ p1
        refine .skip (by rw [ho]; simp) ⟨hp', nx, _, e, p2, ?_, Env.le_refl e, hfit.used fun id h => .inl h⟩
        obtain ⟨dst, op, type, pos, after, guard⟩ := o
        subst ho
        have e1 : execOp a.eval ⟨dst, .mapUpdate t m k v, type, pos, after, guard⟩ = (do Instr.mapUpdate t (a.eval m) (a.eval k) (a.eval v); pure .skip) := rfl
        rw [e1, m2, k2, v2]
        simp only [Sem.run_bind, q3, Result.andThen_ok, Sem.run_pure]
      · cases h
    · cases h
  · cases h
end
end Go.AM
