/- The evaluator, part 3: quiet operations come to what was reckoned. -/
import Derived.Test.YtmiekonofocboaaGreatDoorF2
set_option linter.unusedVariables false
set_option linter.unusedSectionVars false
set_option linter.unusedSimpArgs false
namespace Go.AM
open Go Go.RowKit Go.Eng
set_option linter.unusedSimpArgs false

theorem den_p {e : Env} {id off : Nat} {v : Value} (h : den e (.p id off) = some v) : ∃ z, e id = some z ∧ v = .pointer (some ⟨z.b, z.o + off, none⟩) := by
  simp only [den] at h
  split at h
  · rename_i z hz; cases h; exact ⟨z, hz, rfl⟩
  · cases h
theorem den_l {e : Env} {id off n c : Nat} {v : Value} (h : den e (.l id off n c) = some v) : ∃ z, e id = some z ∧ n ≤ c ∧ v = .slice (some ⟨z.b, z.o + off, none⟩) n c := by
  simp only [den] at h
  split at h
  · rename_i z hz
    split at h
    · cases h; exact ⟨z, hz, by assumption, rfl⟩
    · cases h
  · cases h
theorem den_u {e : Env} {id off n k : Nat} {v : Value} (h : den e (.u id off n k) = some v) : ∃ z, e id = some z ∧ n + k ≤ z.c ∧ v = .slice (some ⟨z.b, z.o + off, none⟩) n (z.c - k) := by
  simp only [den] at h
  split at h
  · rename_i z hz
    split at h
    · cases h; exact ⟨z, hz, by assumption, rfl⟩
    · cases h
  · cases h
theorem den_ue {e : Env} {id o1 o2 k : Nat} {v : Value} (h : den e (.ue id o1 o2 k) = some v) : ∃ z, e id = some z ∧ k ≤ z.c ∧ v = .slice (some ⟨z.b, z.o + (if z.c = k then o1 else o2), none⟩) 0 (z.c - k) := by
  simp only [den] at h
  split at h
  · rename_i z hz
    split at h
    · cases h; exact ⟨z, hz, by assumption, rfl⟩
    · cases h
  · cases h
theorem den_m {e : Env} {id : Nat} {v : Value} (h : den e (.m id) = some v) : ∃ z, e id = some z ∧ v = .map (some z.b) := by
  simp only [den] at h
  split at h
  · rename_i z hz; cases h; exact ⟨z, hz, rfl⟩
  · cases h
theorem den_agg {e : Env} {l : X} {v : Value} (h : den e (.agg l) = some v) : ∃ vs, denL e l = some vs ∧ v = .agg vs.toArray := by
  simp only [den] at h
  split at h
  · rename_i hz; cases h; exact ⟨_, hz, rfl⟩
  · cases h
theorem den_tup {e : Env} {l : X} {v : Value} (h : den e (.tup l) = some v) : ∃ vs, denL e l = some vs ∧ v = .tuple vs.toArray := by
  simp only [den] at h
  split at h
  · rename_i hz; cases h; exact ⟨_, hz, rfl⟩
  · cases h
theorem den_s {e : Env} {l : List Nat} {v : Value} (h : den e (.s l) = some v) : l.all (fun n => Nat.blt n 256) = true ∧ v = .string (str l) := by
  simp only [den] at h
  split at h
  · cases h; exact ⟨by assumption, rfl⟩
  · cases h
theorem den_s' {e : Env} {l : List Nat} (h : l.all (fun n => Nat.blt n 256) = true) : den e (.s l) = some (.string (str l)) := by simp only [den, h, if_true]

theorem rdX_run {e : Env} {D : TD} {l y : X} {vs : List Value} {off : Nat} (hl : denL e l = some vs) (h : rdX D l off = some y) : ∃ v, den e y = some v ∧ rd D vs off = some v := by
  unfold rdX at h
  split at h
  · rename_i hag
    split at h
    · rename_i hle
      cases h
      have hle : off + D.size ≤ vs.length := by rw [← xlen_den hl]; simpa using hle
      refine ⟨.agg ((vs.drop off).take D.size).toArray, ?_, ?_⟩
      · simp only [den, xtake_den (xdrop_den hl)]
      · unfold rd; rw [if_pos hag, if_pos hle]
    · cases h
  · rename_i hag
    obtain ⟨v, h1, h2⟩ := xnth_den hl h
    exact ⟨v, h1, by unfold rd; rw [if_neg (by simp [hag])]; exact h2⟩
theorem fdT_run {P : Program} {τ : Ty} (hτ : TyOk P τ) {t f : Nat} {r : Nat × TD} (h : fdT τ t f = some r) : fdAt P t f = some r := by
  unfold fdT at h
  split at h
  · rename_i fs _ _ _ ht
    split at h
    · rename_i fd hf
      split at h
      · rename_i D hD
        cases h
        unfold fdAt
        rw [(ty_some (hτ _ _ ht)).1]
        simp only [hf, hτ _ _ hD]
      · cases h
    · cases h
  · cases h
theorem cellsAt_run {e : Env} {n : Nat} {z : X} {zn : Nat} {tr : Tr X} {vs : List Value} (hc : CellsAre e n z zn tr vs) : ∀ {k j : Nat} {l : X}, cellsAt n z zn tr k j = some l → denL e l = some ((vs.drop j).take k) ∧ ((vs.drop j).take k).length = k
  | 0, j, l, h => by simp only [cellsAt, Option.some.injEq] at h; subst h; exact ⟨by simp [denL], by simp⟩
  | k + 1, j, l, h => by
    simp only [cellsAt] at h
    split at h
    · rename_i x r hx hr
      cases h
      have hj : j < n := by
        unfold cellAt at hx
        split at hx
        · rename_i hb; exact bltT.1 hb
        · cases hx
      obtain ⟨x', v, h1, h2, h3⟩ := hc.2 j hj
      rw [hx] at h1
      cases h1
      obtain ⟨h4, h5⟩ := cellsAt_run hc hr
      have hd : vs.drop j = v :: vs.drop (j + 1) := by
        rw [List.drop_eq_getElem_cons (by rw [hc.1]; exact hj)]
        congr 1
        rw [List.getElem?_eq_getElem (by rw [hc.1]; exact hj)] at h3
        exact Option.some.inj h3
      rw [hd, List.take_succ_cons]
      exact ⟨by simp only [denL, h2, h4], by simp [h5]⟩
    · cases h
theorem cellAt_run {e : Env} {n : Nat} {z : X} {zn : Nat} {tr : Tr X} {vs : List Value} (hc : CellsAre e n z zn tr vs) {j : Nat} {x : X} (h : cellAt n z zn tr j = some x) : ∃ v, den e x = some v ∧ vs[j]? = some v := by
  have hj : j < n := by
    unfold cellAt at h
    split at h
    · rename_i hb; exact bltT.1 hb
    · cases h
  obtain ⟨x', v, h1, h2, h3⟩ := hc.2 j hj
  rw [h] at h1
  cases h1
  exact ⟨v, h2, h3⟩
/-- A block's cells, in the world. -/
theorem Fit.cells {B : World} {e : Env} {hp : Hp} {U : Nat → Prop} {w : World} (hf : Fit B e hp U w) {id : Nat} {zz : EE} {t : TypeId} {sz n : Nat} {z : X} {zn : Nat} {tr : Tr X} (hb : find hp id = some (.c t sz n z zn tr)) (he : e id = some zz) :
    ∃ pre vs post fz, (w.heap[zz.b]? = some (.cells (pre ++ vs ++ post).toArray t fz) ∧ FrOk fz (pre ++ vs ++ post).length) ∧ pre.length = zz.o ∧ CellsAre e n z zn tr vs ∧ sz = zz.sz ∧ zz.o + zz.c * zz.sz ≤ (pre ++ vs ++ post).length ∧ (n ≤ zz.c * zz.sz ∨ zz.sz = 0) := by
  obtain ⟨o, h1, h0, pre, vs, post, fz, h2, hz, h3, h4, h5⟩ := hf.obj id _ zz hb he
  subst h2
  exact ⟨pre, vs, post, fz, ⟨h1, hz⟩, h3, h4, h0, h5⟩
theorem cell_in {w : World} {b o : Nat} {pre vs post : List Value} {t : TypeId} {fz : Nat × Nat} (h : w.heap[b]? = some (.cells (pre ++ vs ++ post).toArray t fz)) (hp : pre.length = o) {j : Nat} {v : Value} (hv : vs[j]? = some v) : w.cell? ⟨b, o + j, none⟩ = some v := by
  have hj : j < vs.length := by
    rcases Nat.lt_or_ge j vs.length with h' | h'
    · exact h'
    · rw [List.getElem?_eq_none h'] at hv; cases hv
  simp only [World.cell?, h, Option.isSome_none]
  show (pre ++ vs ++ post).toArray[o + j]? = some v
  rw [List.getElem?_toArray, List.append_assoc, List.getElem?_append_right (by omega), List.getElem?_append_left (by omega)]
  rw [← hp, Nat.add_sub_cancel_left]
  exact hv
theorem cells_in {a : Act} {n0 : Nat} {w : World} {b o : Nat} {pre vs post : List Value} {t : TypeId} {fz : Nat × Nat} (h : w.heap[b]? = some (.cells (pre ++ vs ++ post).toArray t fz)) (hp : pre.length = o) {off k : Nat} (hl : ((vs.drop off).take k).length = k) :
    (fullS a n0 w).F.cells ⟨b, o + off, none⟩ k = some ((vs.drop off).take k) := by
  refine cells_mk hl fun j v hj => ?_
  rw [add_own, full_cell, Nat.add_assoc]
  refine cell_in h hp ?_
  rw [List.getElem?_take] at hj
  split at hj
  · rw [List.getElem?_drop] at hj; exact hj
  · cases hj
theorem ldX_run {P : Program} {τ : Ty} (hτ : TyOk P τ) {B : World} {e : Env} {hp : Hp} {U : Nat → Prop} {w : World} (hf : Fit B e hp U w) (a : Act) (n0 : Nat) {t id off : Nat} {y : X} {zz : EE} (he : e id = some zz) (h : ldX τ hp t id off = some y) :
    ∃ v, den e y = some v ∧ ldv P (fullS a n0 w) t (.v (.pointer (some ⟨zz.b, zz.o + off, none⟩))) = some (.v v) := by
  unfold ldX at h
  split at h
  · rename_i D _ _ n z zn tr hD hb
    obtain ⟨pre, vs, post, fz, ⟨h1, _⟩, h2, h3, _⟩ := hf.cells hb he
    unfold ldv
    rw [hτ _ _ hD]
    split at h
    · rename_i hag
      split at h
      · rename_i l hl
        cases h
        obtain ⟨g1, g2⟩ := cellsAt_run h3 hl
        refine ⟨.agg ((vs.drop off).take D.size).toArray, by simp only [den, g1], ?_⟩
        simp only [hag, if_true, cells_in h1 h2 g2]
      · cases h
    · rename_i hag
      obtain ⟨v, g1, g2⟩ := cellAt_run h3 h
      refine ⟨v, g1, ?_⟩
      simp only [hag, full_cell, cell_in h1 h2 g2]
      rfl
  · rename_i D l hD hb
    obtain ⟨o, h1, vs, cc, t0, fr0, rfl, h2, hcc, h3⟩ := hf.obj id _ zz hb he
    obtain ⟨v, g1, g2⟩ := rdX_run h2 h
    refine ⟨v, g1, ?_⟩
    unfold ldv
    rw [hτ _ _ hD]
    have hc : ∀ j v, vs[j]? = some v → w.cell? ⟨zz.b, zz.o + j, none⟩ = some v := fun j v hj => by
      simp only [World.cell?, h1, h3, Nat.zero_add, Option.isSome_none]
      simpa using hcc j v hj
    unfold rd at g2
    by_cases hag : isAggD D.d = true
    · rw [if_pos hag] at g2
      split at g2
      · rename_i hle
        cases g2
        have : (fullS a n0 w).F.cells ⟨zz.b, zz.o + off, none⟩ D.size = some ((vs.drop off).take D.size) := by
          refine cells_mk (by simp; omega) fun j v hj => ?_
          rw [add_own, full_cell, Nat.add_assoc]
          refine hc _ _ ?_
          rw [List.getElem?_take] at hj
          split at hj
          · rw [List.getElem?_drop] at hj; exact hj
          · cases hj
        simp only [hag, if_true, this]
      · cases g2
    · rw [if_neg hag] at g2
      simp only [hag, full_cell, hc _ _ g2]
      rfl
  · cases h
theorem xeq_run {op : BinOp} {b : Bool} {y : X} (h : xeq op b = some y) (e : Env) : ∃ v, den e y = some v ∧ eqb op b = some v := by
  unfold xeq at h
  unfold eqb
  split at h <;> first | (cases h; exact ⟨_, rfl, rfl⟩) | cases h
theorem xstr_run {op : BinOp} {a b : List Nat} {y : X} (ha : a.all (fun n => Nat.blt n 256) = true) (hb : b.all (fun n => Nat.blt n 256) = true) (h : xstr op a b = some y) (e : Env) : ∃ v, den e y = some v ∧ strv op (str a) (str b) = some v := by
  have hs : sameS a b = decide (str a = str b) := by
    rw [Bool.eq_iff_iff, sameS_iff, decide_eq_true_iff, str_inj ha hb]
  unfold xstr at h
  unfold strv
  split at h
  · cases h; exact ⟨_, rfl, by simp only [hs]⟩
  · cases h; exact ⟨_, rfl, by simp only [hs]⟩
  · split at h
    · rename_i hle
      cases h
      have hle : a.length + b.length ≤ 9223372036854775807 := by simpa using hle
      refine ⟨.string (str a ++ str b), ?_, ?_⟩
      · rw [den_s' (by rw [List.all_append, ha, hb]; rfl)]
        congr 2
        unfold str
        apply ByteArray.ext
        simp
      · simp only [str_size]
        rw [if_pos hle]
    · cases h
  · cases h
theorem xflat_run {P : Program} {τ : Ty} (hτ : TyOk P τ) {e : Env} {a b : X} {va vb : List Value} (ha : denL e a = some va) (hb : denL e b = some vb) : ∀ {fs : List Field} {r : Bool}, xflat τ a b fs = some r → flatF P va.toArray vb.toArray fs = some r
  | [], r, h => by simpa only [xflat, flatF] using h
  | f :: l, r, h => by
    simp only [xflat] at h
    simp only [flatF]
    split at h
    · cases h
    · rename_i hn
      rw [if_neg hn]
      split at h
      · rename_i hu h1 h2 h3
        obtain ⟨v1, k1, k2⟩ := xnth_den ha h1
        obtain ⟨v2, k3, k4⟩ := xnth_den hb h2
        simp only [den, Option.some.injEq] at k1 k3
        subst k1; subst k3
        have hu := (ty_some (hτ _ _ hu)).1
        simp only [hu, List.getElem?_toArray, k2, k4, xflat_run hτ ha hb h3]
        exact h
      · rename_i hu h1 h2 h3
        obtain ⟨v1, k1, k2⟩ := xnth_den ha h1
        obtain ⟨v2, k3, k4⟩ := xnth_den hb h2
        obtain ⟨a1, rfl⟩ := den_s k1
        obtain ⟨a2, rfl⟩ := den_s k3
        have hu := (ty_some (hτ _ _ hu)).1
        simp only [hu, List.getElem?_toArray, k2, k4, xflat_run hτ ha hb h3]
        rw [← h]
        congr 2
        rw [eq_comm, Bool.eq_iff_iff, sameS_iff, decide_eq_true_iff, str_inj a1 a2]
      · rename_i hu h1 h2 h3
        obtain ⟨v1, k1, k2⟩ := xnth_den ha h1
        obtain ⟨v2, k3, k4⟩ := xnth_den hb h2
        simp only [den, Option.some.injEq] at k1 k3
        subst k1; subst k3
        have hu := (ty_some (hτ _ _ hu)).1
        simp only [hu, List.getElem?_toArray, k2, k4, xflat_run hτ ha hb h3]
        exact h
      · cases h
theorem xbin_run {P : Program} {τ : Ty} (hτ : TyOk P τ) {e : Env} {op : BinOp} {t : TypeId} {x y r : X} {vx vy : Value} (hx : den e x = some vx) (hy : den e y = some vy) (h : xbin P τ op t x y = some r) : ∃ v, den e r = some v ∧ binv P op t vx vy = some v := by
  unfold xbin at h
  split at h
  · simp only [den, Option.some.injEq] at hx hy
    subst hx; subst hy
    split at h
    · rename_i v hv; exact ⟨v, xof1_den h e, hv⟩
    · cases h
  · obtain ⟨h1, rfl⟩ := den_s hx
    obtain ⟨h2, rfl⟩ := den_s hy
    exact xstr_run h1 h2 h e
  · simp only [den, Option.some.injEq] at hx hy
    subst hx; subst hy
    split at h
    · rename_i ht; obtain ⟨v, h1, h2⟩ := xeq_run h e; exact ⟨v, h1, by simp only [binv, hτ _ _ ht, h2]⟩
    · cases h
  · simp only [den, Option.some.injEq] at hx hy
    subst hx; subst hy
    split at h
    · rename_i ht; obtain ⟨v, h1, h2⟩ := xeq_run h e; exact ⟨v, h1, by simp only [binv, hτ _ _ ht, Option.isNone_none, h2]⟩
    · cases h
  · obtain ⟨z, _, rfl⟩ := den_p hx
    simp only [den, Option.some.injEq] at hy
    subst hy
    split at h
    · rename_i ht; obtain ⟨v, h1, h2⟩ := xeq_run h e; exact ⟨v, h1, by simp only [binv, hτ _ _ ht, Option.isNone_some, h2]⟩
    · cases h
  · simp only [den, Option.some.injEq] at hx hy
    subst hx; subst hy
    split at h
    · rename_i ht; obtain ⟨v, h1, h2⟩ := xeq_run h e; exact ⟨v, h1, by simp only [binv, hτ _ _ ht, Option.isNone_none, h2]⟩
    · cases h
  · obtain ⟨z, _, _, rfl⟩ := den_l hx
    simp only [den, Option.some.injEq] at hy
    subst hy
    split at h
    · rename_i ht; obtain ⟨v, h1, h2⟩ := xeq_run h e; exact ⟨v, h1, by simp only [binv, hτ _ _ ht, Option.isNone_some, h2]⟩
    · cases h
  · obtain ⟨z, _, _, rfl⟩ := den_u hx
    simp only [den, Option.some.injEq] at hy
    subst hy
    split at h
    · rename_i ht; obtain ⟨v, h1, h2⟩ := xeq_run h e; exact ⟨v, h1, by simp only [binv, hτ _ _ ht, Option.isNone_some, h2]⟩
    · cases h
  · simp only [den, Option.some.injEq] at hx hy
    subst hx; subst hy
    split at h
    · rename_i ht; obtain ⟨v, h1, h2⟩ := xeq_run h e; exact ⟨v, h1, by simp only [binv, hτ _ _ ht, Option.isNone_none, h2]⟩
    · cases h
  · obtain ⟨z, _, rfl⟩ := den_m hx
    simp only [den, Option.some.injEq] at hy
    subst hy
    split at h
    · rename_i ht; obtain ⟨v, h1, h2⟩ := xeq_run h e; exact ⟨v, h1, by simp only [binv, hτ _ _ ht, Option.isNone_some, h2]⟩
    · cases h
  · obtain ⟨la, h1, rfl⟩ := den_agg hx
    obtain ⟨lb, h2, rfl⟩ := den_agg hy
    split at h
    · rename_i ht
      split at h
      · rename_i g1 g2 g3
        obtain ⟨v, k1, k2⟩ := xeq_run h e
        refine ⟨v, k1, ?_⟩
        have hs : sEq P t la.toArray lb.toArray = some ‹Bool› := by
          unfold sEq flatEq
          rw [(ty_some (hτ _ _ ht)).1]
          simp only [g1, g2, and_self, if_true, xflat_run hτ h1 h2 g3]
        simp only [binv, hs, k2]
      · exact xag_run h1 h2 h
    · cases h
  · cases h
theorem bytesX_run {e : Env} : ∀ {l : X} {vs : List Value} {ns : List Nat}, denL e l = some vs → bytesX l = some ns → bytesV vs = some (ns.map Int.ofNat) ∧ ns.all (fun n => Nat.blt n 256) = true := by
  intro l
  induction l with
  | nl => intro vs ns h1 h2; simp only [denL, Option.some.injEq] at h1; simp only [bytesX, Option.some.injEq] at h2; subst h1; subst h2; exact ⟨rfl, rfl⟩
  | cs a b _ ih =>
    intro vs ns h1 h2
    unfold bytesX at h2
    split at h2
    · cases ‹X.cs a b = X.nl›
    · rename_i e0
      cases e0
      split at h2
      · rename_i g1 g2
        cases h2
        simp only [denL, den] at h1
        split at h1
        · rename_i k1 k2
          cases h1
          cases k1
          obtain ⟨i1, i2⟩ := ih k2 g2
          obtain ⟨j1, j2, j3, j4⟩ := leN_ok g1
          refine ⟨?_, ?_⟩
          · simp only [bytesV, i1, List.map_cons, Option.some.injEq, List.cons.injEq, and_true]
            simp only [Int.ofNat_eq_natCast]; omega
          · simp only [List.all_cons, i2, Bool.and_true]
            exact bltT.2 (by omega)
        · cases h1
      · cases h2
    · cases h2
  | _ => intro vs ns h1 h2; simp [bytesX] at h2
theorem bstr_str (ns : List Nat) : bstr (ns.map Int.ofNat) = str ns := by
  have key : ∀ (l : List Nat) (b : ByteArray), (l.map Int.ofNat).foldl (fun r n => r.push (UInt8.ofNat n.toNat)) b = ⟨(b.data.toList ++ l.map UInt8.ofNat).toArray⟩ := by
    intro l
    induction l with
    | nil => intro b; cases b; simp
    | cons a l ih =>
      intro b
      simp only [List.map_cons, List.foldl_cons, ih]
      congr 2
      simp
  have := key ns ByteArray.empty
  unfold bstr str
  rw [this]
  congr 2
theorem cutX_run {e : Env} {n : Nat} {fr : Tr X} {dm : List DM} {a : Act} (hk : KnX e n fr dm a) (w : World) {len cap c' l h : Nat} (hc : cap ≤ c') {lo hi : Option Operand} (hx : cutX fr len cap lo hi = some (l, h)) (hlc : len ≤ cap) : cutb (fullS a n w) len c' lo hi = some (l, h) ∧ l ≤ h ∧ h ≤ cap := by
  have one : ∀ {x : Operand} {c m : Nat}, (match ev fr x with
      | some (.i _ n) => leN n c
      | _ => none) = some m → ∃ k i, evo (fullS a n w).L x = some (.v (.int k i)) ∧ 0 ≤ i ∧ i ≤ (c : Int) ∧ i.toNat = m ∧ m ≤ c := by
    intro x c m hm
    split at hm
    · rename_i k i he
      obtain ⟨v, h1, _, h3⟩ := ev_full hk w he
      simp only [den, Option.some.injEq] at h1
      subst h1
      obtain ⟨j1, j2, j3, j4⟩ := leN_ok hm
      exact ⟨k, i, h3, j1, j2, j3, j4⟩
    · cases hm
  unfold cutX at hx
  unfold cutb
  cases hi with
  | none =>
    cases lo with
    | none => simp only [Option.some.injEq, Prod.mk.injEq] at hx ⊢; obtain ⟨rfl, rfl⟩ := hx; exact ⟨⟨rfl, rfl⟩, Nat.zero_le _, hlc⟩
    | some lx =>
      simp only at hx ⊢
      split at hx
      · cases hx
      · rename_i l' el
        cases hx
        obtain ⟨k, i, g1, g2, g3, g4, g5⟩ := one el
        simp only [g1]
        rw [if_pos ⟨g2, g3⟩, g4]
        exact ⟨rfl, g5, hlc⟩
  | some hx' =>
    simp only at hx ⊢
    split at hx
    · cases hx
    · rename_i h' eh
      obtain ⟨k, i, g1, g2, g3, g4, g5⟩ := one eh
      simp only [g1]
      rw [if_pos ⟨g2, by omega⟩, g4]
      cases lo with
      | none => simp only [Option.some.injEq, Prod.mk.injEq] at hx ⊢; obtain ⟨rfl, rfl⟩ := hx; exact ⟨⟨rfl, rfl⟩, Nat.zero_le _, g5⟩
      | some lx =>
        simp only at hx ⊢
        split at hx
        · cases hx
        · rename_i l' el
          cases hx
          obtain ⟨k, i, g1, g2, g3, g4, g6⟩ := one el
          simp only [g1]
          rw [if_pos ⟨g2, g3⟩, g4]
          exact ⟨rfl, g6, g5⟩
theorem evs_full {e : Env} {n : Nat} {fr : Tr X} {dm : List DM} {a : Act} (h : KnX e n fr dm a) (w : World) : ∀ {l : List Operand} {y : X}, evs fr l = some y → ∃ vs, denL e y = some vs ∧ evl (fullS a n w).L l = some vs
  | [], y, hy => by simp only [evs, Option.some.injEq] at hy; subst hy; exact ⟨[], rfl, rfl⟩
  | x :: l, y, hy => by
    simp only [evs] at hy
    split at hy
    · rename_i h1 h2
      cases hy
      obtain ⟨v, g1, _, g2⟩ := ev_full h w h1
      obtain ⟨vs, g3, g4⟩ := evs_full h w h2
      exact ⟨v :: vs, by simp only [denL, g1, g3], by simp only [evl, g2, g4, AV.val_v]⟩
    · cases hy
end Go.AM
