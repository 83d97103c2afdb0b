/- The evaluator, part 9: copy, clear, min and max; maps. -/
import Derived.Test.YtmiekonofocboaaGreatDoorF8
set_option linter.unusedVariables false
set_option linter.unusedSectionVars false
set_option linter.unusedSimpArgs false
namespace Go.AM
open Go Go.RowKit Go.Eng
section
variable {P : Program} {ro : Option Nat} {B : World} {e : Env} {U : Nat → Prop} {i nx : Nat} {o : Oper} {a : Act} {w : World} {hp : Hp} {fr : Tr X} {dm : List DM} {n : Nat} {τ : Ty}
/-- A slice's place, and how many elements it has. -/
def slP : X → Option (Nat × Nat × Nat)
  | .l id off len _ => some (id, off, len)
  | .u id off len _ => some (id, off, len)
  | _ => none
theorem slP_run {x : X} {id off len : Nat} {v : Value} (hx : den e x = some v) (h : slP x = some (id, off, len)) : ∃ z c, e id = some z ∧ v = .slice (some ⟨z.b, z.o + off, none⟩) len c := by
  cases x <;> simp only [slP] at h <;> first
    | (cases h; done)
    | (cases h; obtain ⟨z, h1, _, h2⟩ := den_l hx; exact ⟨z, _, h1, h2⟩)
    | (cases h; obtain ⟨z, h1, _, h2⟩ := den_u hx; exact ⟨z, _, h1, h2⟩)
def aCopy (τ : Ty) (fr : Tr X) (hp : Hp) (nx : Nat) (t u : TypeId) (d s : Operand) : Option Outs :=
  match find τ t, find τ u, ev fr d, ev fr s with
  | some ⟨.slice el, _, _, _⟩, some ⟨.slice _, _, _, _⟩, some dx, some sx => (match find τ el, slP dx, slP sx with
    | some D, some (id, off, len), some (id2, off2, len2) => (match find hp id2 with
      | some (.c _ _ nn z zn tr) => (match cellsAt nn z zn tr (Nat.min len2 len * D.size) off2 with
        | some us => (match allOne us with
          | true => outc (.i .i64 (Int.ofNat (Nat.min len2 len))) nx (stB hp id off us)
          | false => none)
        | none => none)
      | _ => none)
    | _, _, _ => none)
  | _, _, _, _ => none
theorem aCopy_ok (hτ : TyOk P τ) (hk : KnX e n fr dm a) (hf : Fit B e hp U w) {t u : TypeId} {d s : Operand} {args : Array Operand} {tys : Array TypeId} (ho : o.op = .call ⟨.builtin .copy, args, tys⟩) (ha : args.toList = [d, s]) (hty : tys.toList = [t, u])
    {outs : Outs} (h : aCopy τ fr hp nx t u d s = some outs) : EffOk P ro B e U i nx o a w outs := by
  obtain rfl : args = #[d, s] := by cases args; simp at ha; simp [ha]
  obtain rfl : tys = #[t, u] := by cases tys; simp at hty; simp [hty]
  unfold aCopy at h
  split at h
  · rename_i el _ _ _ _ _ _ _ dx sx ht hu hd hs
    obtain ⟨vd, d1, d2⟩ := ev_run hk hd
    obtain ⟨vs, s1, s2⟩ := ev_run hk hs
    split at h
    · rename_i D id off len id2 off2 len2 hD hpd hps
      obtain ⟨z, c, hz, rfl⟩ := slP_run d1 hpd
      obtain ⟨z2, c2, hz2, rfl⟩ := slP_run s1 hps
      split at h
      · rename_i hb
        split at h
        · rename_i us hus
          split at h
          · rename_i hone
            obtain ⟨hp', k1, k2⟩ := outc_some h
            obtain ⟨pre, cs, post, fz, ⟨g1, _⟩, g2, g3, _⟩ := hf.cells hb hz2
            obtain ⟨j1, j2⟩ := cellsAt_run g3 hus
            obtain ⟨w', r1, r2, _⟩ := stB_run (P := P) hf hz j1 (allOne_one hone j1) k1
            refine .value (by rw [ho]; simp) ⟨.i .i64 (Int.ofNat (Nat.min len2 len)), hp', nx, goInt (Nat.min len2 len), w', e, k2, ?_, Env.le_refl e, rfl, r2.used fun id h => .inl h⟩
            obtain ⟨dst, op, type, pos, after, guard⟩ := o
            subst ho
            have hfc := run_firstCells_some (P := P) w D.size (Nat.min len2 len) ⟨z2.b, z2.o + off2, none⟩ len2 c2 _ j2 (fun j v hj => by
              rw [add_own, Nat.add_assoc]
              refine cell_in g1 g2 ?_
              rw [List.getElem?_take] at hj
              split at hj
              · rw [List.getElem?_drop] at hj; exact hj
              · cases hj)
            have ht' : P.underlying t = some (.slice el) := by rw [(ty_some (hτ _ _ ht)).1]
            simp only [execOp, resolve, invoke, builtin, Sem.run_bind, Sem.run_pure, Result.andThen_ok, List.map_toArray, List.map_cons, List.map_nil, d2, s2]
            simp [Builtin.copy_, run_underlying ht', Builtin.lenOf, ty_size (hτ _ _ hD), hfc, r1]
          · cases h
        · cases h
      · cases h
    · cases h
  · cases h
def rep (x : X) : Nat → X
  | 0 => .nl
  | n + 1 => .cs x (rep x n)
theorem rep_den {x : X} {v : Value} (h : den e x = some v) : ∀ n, denL e (rep x n) = some (List.replicate n v)
  | 0 => rfl
  | n + 1 => by simp only [rep, denL, h, rep_den h n, List.replicate_succ]
def aClear (τ : Ty) (fr : Tr X) (hp : Hp) (nx : Nat) (t : TypeId) (x : Operand) : Option Outs :=
  match find τ t, ev fr x with
  | some ⟨.slice el, _, _, _⟩, some dx => (match find τ el, slP dx with
    | some D, some (id, off, len) => (match xof1 D.zero with
      | some z => (match Nat.beq len 0 with
        | true => some [(undX, hp, nx)]
        | false => outc undX nx (stB hp id off (rep z len)))
      | none => none)
    | _, _ => none)
  | _, _ => none
theorem xof1_one {v : Value} {x : X} (h : xof1 v = some x) : v.oneCell' = true ∧ v.cells = #[v] := by
  unfold xof1 at h
  split at h <;> first | (exact ⟨rfl, rfl⟩) | cases h
theorem aClear_ok (hτ : TyOk P τ) (hk : KnX e n fr dm a) (hf : Fit B e hp U w) {t : TypeId} {x : Operand} {args : Array Operand} {tys : Array TypeId} (ho : o.op = .call ⟨.builtin .clear, args, tys⟩) (ha : args.toList = [x]) (hty : tys.toList = [t])
    {outs : Outs} (h : aClear τ fr hp nx t x = some outs) : EffOk P ro B e U i nx o a w outs := by
  obtain rfl : args = #[x] := by cases args; simp at ha; simp [ha]
  obtain rfl : tys = #[t] := by cases tys; simp at hty; simp [hty]
  unfold aClear at h
  split at h
  · rename_i el _ _ _ dx ht hx
    obtain ⟨vd, d1, d2⟩ := ev_run hk hx
    have ht' : P.underlying t = some (.slice el) := by rw [(ty_some (hτ _ _ ht)).1]
    split at h
    · rename_i D id off len hD hpd
      obtain ⟨z, c, hz, rfl⟩ := slP_run d1 hpd
      have he : ∀ w', (Builtin.clear_ #[t] o.type #[.slice (some ⟨z.b, z.o + off, none⟩) len c]).run P w = .ok undef w' → (execOp a.eval o).run P w = .ok (.value undef) w' := by
        intro w' hr
        obtain ⟨dst, op, type, pos, after, guard⟩ := o
        subst ho
        simp only [execOp, resolve, invoke, builtin, Sem.run_bind, Sem.run_pure, Result.andThen_ok, List.map_toArray, List.map_cons, List.map_nil, d2, hr]
      split at h
      · rename_i zx hzx
        obtain ⟨o1, o2⟩ := xof1_one hzx
        split at h
        · rename_i h0
          have h0 := beqT.1 h0
          subst h0
          cases h
          refine .value (by rw [ho]; simp) ⟨undX, hp, nx, undef, w, e, List.mem_cons_self, he w ?_, Env.le_refl e, undX_den e, hf.used fun id h => .inl h⟩
          simp [Builtin.clear_, run_underlying ht']
          rfl
        · rename_i h0
          have h0 := beqF.1 h0
          obtain ⟨hp', k1, k2⟩ := outc_some h
          have hr := rep_den (e := e) (xof1_den hzx e) len
          obtain ⟨w', r1, r2, _⟩ := stB_run (P := P) hf hz hr (fun v hv => by rw [List.eq_of_mem_replicate hv]; exact o1) k1
          refine .value (by rw [ho]; simp) ⟨undX, hp', nx, undef, w', e, k2, he w' ?_, Env.le_refl e, undX_den e, r2.used fun id h => .inl h⟩
          have hzc : (Builtin.zeroCells D.zero.cells len).toList = List.replicate len D.zero := by
            rw [o2]
            simp [Builtin.zeroCells]
            apply List.ext_getElem
            · simp
            · intro i h1 h2
              simp [Nat.mod_one]
          obtain ⟨m, rfl⟩ : ∃ m, len = m + 1 := ⟨len - 1, by omega⟩
          simp [Builtin.clear_, run_underlying ht', ty_zero (hτ _ _ hD), hzc, r1]
          rfl
      · cases h
    · cases h
  · cases h
def aMin (fr : Tr X) (hp : Hp) (nx : Nat) (isMin : Bool) (x y : Operand) : Option Outs :=
  match ev fr x, ev fr y with
  | some (.i k a), some (.i _ b) => some [(.i k (match isMin with
    | true => if b < a then b else a
    | false => if a < b then b else a), hp, nx)]
  | _, _ => none
theorem aMin_ok (hk : KnX e n fr dm a) (hf : Fit B e hp U w) {x y : Operand} {args : Array Operand} {tys : Array TypeId} {isMin : Bool} (ho : o.op = .call ⟨.builtin (match isMin with | true => .min | false => .max), args, tys⟩) (ha : args.toList = [x, y])
    {outs : Outs} (h : aMin fr hp nx isMin x y = some outs) : EffOk P ro B e U i nx o a w outs := by
  obtain rfl : args = #[x, y] := by cases args; simp at ha; simp [ha]
  unfold aMin at h
  split at h
  · rename_i k ax k2 bx hx hy
    obtain ⟨vx, x1, x2⟩ := ev_run hk hx
    obtain ⟨vy, y1, y2⟩ := ev_run hk hy
    simp only [den, Option.some.injEq] at x1 y1
    subst x1; subst y1
    cases h
    refine .value (by rw [ho]; simp) ⟨_, hp, nx, _, w, e, List.mem_cons_self, ?_, Env.le_refl e, rfl, hf.used fun id h => .inl h⟩
    obtain ⟨dst, op, type, pos, after, guard⟩ := o
    subst ho
    cases isMin <;>
    simp [execOp, resolve, invoke, builtin, Sem.run_bind, Sem.run_pure, Result.andThen_ok, x2, y2, Builtin.min_, Builtin.max_, Builtin.min2, Builtin.max2]
  · cases h
/-- A text as bytes: a new row, with a mark behind it. -/
def aBytes (τ : Ty) (fr : Tr X) (hp : Hp) (i nx : Nat) (s d : TypeId) (x : Operand) : Option Outs :=
  match find τ s, find τ d, ev fr x with
  | some ⟨.string, _, _, _⟩, some ⟨.slice el, _, _, _⟩, some (.s l) => (match find τ el with
    | some ⟨.int .u8, _, _, _⟩ => outc (.u i 0 l.length 0) nx (put 40 hp i (some (newB el 1 (bytesOfS l))))
    | _ => none)
  | _, _, _ => none
theorem aBytes_ok (hτ : TyOk P τ) (hk : KnX e n fr dm a) (hf : Fit B e hp U w) (hi : ¬ U i) {s d : TypeId} {x : Operand} (ho : o.op = .convert s d x) {outs : Outs} (h : aBytes τ fr hp i nx s d x = some outs) : EffOk P ro B e U i nx o a w outs := by
  unfold aBytes at h
  split at h
  · rename_i el _ _ _ l hs hd hx
    split at h
    · rename_i he
      obtain ⟨v, x1, x2⟩ := ev_run hk hx
      obtain ⟨hl, rfl⟩ := den_s x1
      have hge := grownCap_ge w (str l).size 0 el
      have hrun := Lib.run_convert_string_bytes (P := P) w s d el (str l) (ty_some (hτ _ _ hs)).1 (ty_some (hτ _ _ hd)).1 (ty_some (hτ _ _ he)).1
      have hcs : (Lib.bytesCells w el (str l)).size = grownCap w (str l).size 0 el := by
        have hd : (str l).data.size = (str l).size := rfl
        simp only [Lib.bytesCells, Array.size_append, Array.size_map, Array.size_replicate, hd]
        omega
      refine .fresh (by rw [ho]; simp) hf hi (z := ⟨w.heap.size, 0, grownCap w (str l).size 0 el, 1, none, undef⟩) (v := .slice (some ⟨w.heap.size, 0, none⟩) (str l).size (grownCap w (str l).size 0 el)) (w' := Lib.bytesWorld w el (str l)) rfl ?_ ?_ (Lib.bytesWorld_at_new w el (str l)) ?_ ?_ h
      · obtain ⟨dst, op, type, pos, after, guard⟩ := o
        subst ho
        have e1 : execOp a.eval ⟨dst, .convert s d x, type, pos, after, guard⟩ = (do pure (.value (← convert s d (a.eval x)))) := rfl
        rw [e1]
        simp only [Sem.run_bind, x2, hrun, Result.andThen_ok]
        rfl
      · exact ⟨rfl, rfl, rfl, by rw [Lib.bytesWorld_size]; omega, fun k hk' _ => Lib.bytesWorld_at_old w el (str l) k hk'⟩
      · have hb := bytes_den (e := e.add i ⟨w.heap.size, 0, grownCap w (str l).size 0 el, 1, none, undef⟩) l hl
        have hd : (str l).data.toList.length = (str l).size := by rw [Array.length_toList]; rfl
        refine ⟨rfl, [], _, List.replicate (grownCap w (str l).size 0 el - (str l).size) (.int .u8 0), ((Lib.bytesCells w el (str l)).size, (Lib.bytesCells w el (str l)).size + 1), ?_, Or.inr ?_, rfl, by rw [xlen_den hb]; exact .mk hb, ?_, .inl ?_⟩
        · congr 1
          apply Array.ext'
          simp [Lib.bytesCells]
        · show _ ≤ (Lib.bytesCells w el (str l)).size
          rw [hcs]
          simp only [List.nil_append, List.length_append, Array.toList_map, List.length_map, List.length_replicate, hd]
          omega
        · simp only [List.nil_append, List.length_append, Array.toList_map, List.length_map, List.length_replicate, hd]
          omega
        · rw [xlen_den hb]
          simp only [Array.toList_map, List.length_map, hd]
          omega
      · simp only [den, Env.add_self]
        rw [str_size] at hge ⊢
        rw [if_pos (by omega)]
        simp
    · cases h
  · cases h
end
end Go.AM
